/- Numbers as bytes: both encodings are one. -/
import Derived.Test.YtilffanmaicakaaMhA
import Derived.Test.YtilffanmaicakaaMaD
import Derived.Test.YtilffanmaicakaaMgD
import Derived.Test.YtilffanmaicakaaMhC
import Derived.Test.YtilffanmaicakaaMhD

namespace Go.Proofs.Ytilffanmaicakaa.A
open Go Go.Pt

/-- A number of 64 bits. -/
def In64 (n : Int) : Prop := -9223372036854775808 ≤ n ∧ n ≤ 9223372036854775807
theorem zz_lt {n : Int} (h : In64 n) : zz n < 18446744073709551616 := by
  unfold zz; unfold In64 at h; split <;> omega
theorem f128_is {n : Int} (h : In64 n) (fuel : Nat) : f128 stdOps fuel n = some (.v0 (zz n)) := by
  unfold In64 at h
  unfold f128 zz
  by_cases h0 : 0 ≤ n
  · rw [ifB_t (by simp [stdOps, h0]), if_pos h0]
    simp only [stdOps]
    rw [wr_u64 (n := n) (by omega) (by omega), wr_u64 (by omega) (by omega)]
    congr 2; omega
  · rw [ifB_f (by simp [stdOps]; omega), if_neg h0]
    simp only [stdOps]
    rw [wr_i64 (n := n + 1) (by omega) (by omega), wr_i64 (by omega) (by omega), wr_u64 (n := 0 - (n + 1)) (by omega) (by omega), wr_u64 (n := 2 * (0 - (n + 1))) (by omega) (by omega), wr_u64 (by omega) (by omega)]
    congr 2; omega
theorem f106_is {n : Int} (h : In64 n) (fuel : Nat) : f106 stdOps fuel n = some (.v0 (zz n)) := by
  unfold In64 at h
  unfold f106 zz
  rw [req_eq _ (by simp [stdOps]), req_eq _ (by simp [stdOps])]
  simp only [stdOps, IntKind.bits]
  have e1 : (2 : Int) ^ (min (Int.toNat 1) 64) = 2 := by decide
  have e2 : (2 : Int) ^ (min (Int.toNat 63) 64) = 9223372036854775808 := by decide
  rw [e1, e2]
  by_cases h0 : 0 ≤ n
  · rw [if_pos h0, wr_u64 (n := n) (by omega) (by omega), wr_u64 (n := n * 2) (by omega) (by omega)]
    have : n.fdiv 9223372036854775808 = 0 := by rw [Int.fdiv_eq_ediv_of_nonneg _ (by decide)]; omega
    rw [this, wr_u64 (n := 0) (by decide) (by decide), xor0 (by omega) (by omega)]
    congr 2; omega
  · rw [if_neg h0]
    have : n.fdiv 9223372036854775808 = -1 := by rw [Int.fdiv_eq_ediv_of_nonneg _ (by decide)]; omega
    rw [this]
    have e3 : IntKind.u64.wrap (-1) = 18446744073709551615 := by decide
    rw [e3]
    have e4 : IntKind.u64.wrap (IntKind.u64.wrap n * 2) = 18446744073709551616 + 2 * n := by
      rw [wr_u64m, wr_u64m]; omega
    rw [e4, xorAll (by omega) (by omega)]
    congr 2; omega

/-- The loop of ref01.form. -/
theorem f125_l0_is : ∀ (k f fuel : Nat) (u : Nat) (acc : List Nat), u < 128 ^ k → u < 18446744073709551616 → k < f → k ≤ 10 → acc.length ≤ 20 - k → f125_l0 stdOps fuel f (u : Int) (acc.map byt) = some (.x0 ((gh k u ++ acc).map byt)) := by
  intro k
  induction k with
  | zero =>
    intro f fuel u acc hu _ hf hk hl
    obtain ⟨f, rfl⟩ : ∃ g, f = g + 1 := ⟨f - 1, by omega⟩
    have : u = 0 := by simpa using hu
    subst this
    rw [f125_l0]
    simp [stdOps, ifB, gh]
  | succ k ih =>
    intro f fuel u acc hu hu2 hf hk hl
    obtain ⟨f, rfl⟩ : ∃ g, f = g + 1 := ⟨f - 1, by omega⟩
    rw [f125_l0, gh]
    by_cases h0 : u = 0
    · subst h0; simp [stdOps, ifB]
    · rw [if_neg h0]
      have hd : u / 128 < 128 ^ k := by rw [Nat.div_lt_iff_lt_mul (by decide)]; rw [Nat.pow_succ] at hu; exact hu
      have := ih f fuel (u / 128) ((u % 128 + 128) :: acc) hd (by omega) (by omega) (by omega) (by simp; omega)
      rw [ifB_t (by simp [stdOps]; omega), req_eq _ (by simp [stdOps]), req_eq _ (by simp [stdOps]; omega), req_eq _ (by simp [stdOps])]
      have e1 : stdOps.ar .quo .u64 (u : Int) 128 = ((u / 128 : Nat) : Int) := by
        simp only [stdOps]
        rw [Int.tdiv_eq_ediv_of_nonneg (by omega), wr_u64 (by omega) (by omega)]; omega
      have e2 : (AV.int .u8 (stdOps.ar .add .u8 (stdOps.wrap .u8 (stdOps.ar .rem .u64 (u : Int) 128)) 128)) = byt (u % 128 + 128) := by
        simp only [stdOps, byt]
        rw [Int.tmod_eq_emod_of_nonneg (by omega), wr_u8 (n := (u : Int) % 128) (by omega) (by omega), wr_u8 (by omega) (by omega)]
        congr 1
      have e3 : stdOps.apnd [byt (u % 128 + 128)] (acc.map byt) = ((u % 128 + 128) :: acc).map byt := rfl
      rw [e1, e2, e3, this]
      simp
theorem f125_is {n : Int} (h : In64 n) {fuel : Nat} (hf : 12 ≤ fuel) : f125 stdOps fuel n = some (.v0 ((form (zz n)).map byt)) := by
  have hz := zz_lt h
  unfold f125
  rw [bindR_eq (f128_is h fuel)]
  simp only
  rw [req_eq _ (by simp [stdOps]), req_eq _ (by simp [stdOps])]
  have e1 : stdOps.ar .quo .u64 (zz n : Int) 128 = ((zz n / 128 : Nat) : Int) := by
    simp only [stdOps]
    rw [Int.tdiv_eq_ediv_of_nonneg (by omega), wr_u64 (by omega) (by omega)]; omega
  have e2 : (AV.int .u8 (stdOps.wrap .u8 (stdOps.ar .rem .u64 (zz n : Int) 128))) = byt (zz n % 128) := by
    simp only [stdOps, byt]
    rw [Int.tmod_eq_emod_of_nonneg (by omega), wr_u8 (by omega) (by omega)]
    congr 1
  rw [e1, e2]
  have hp2 : (128 : Nat) ^ 10 = 1180591620717411303424 := by decide
  have e3 := f125_l0_is 10 fuel fuel (zz n / 128) [zz n % 128] (by omega) (by omega) (by omega) (Nat.le_refl _) (by simp)
  rw [List.map_cons, List.map_nil] at e3
  rw [bindR_eq e3]
  rfl
/-- How many groups of seven bits are above the last. -/
theorem groups (u : Nat) (_h : u < 18446744073709551616) : ∃ k, k ≤ 9 ∧ u < 128 ^ (k + 1) ∧ (k = 0 ∨ 128 ^ k ≤ u) := by
  have key : ∀ m, u < 128 ^ (m + 1) → ∃ k, k ≤ m ∧ u < 128 ^ (k + 1) ∧ (k = 0 ∨ 128 ^ k ≤ u) := by
    intro m
    induction m with
    | zero => intro h; exact ⟨0, Nat.le_refl _, h, .inl rfl⟩
    | succ m ih =>
      intro h
      by_cases hm : u < 128 ^ (m + 1)
      · obtain ⟨k, h1, h2⟩ := ih hm; exact ⟨k, by omega, h2⟩
      · exact ⟨m + 1, Nat.le_refl _, h, .inr (by omega)⟩
  have hp2 : (128 : Nat) ^ (9 + 1) = 1180591620717411303424 := by decide
  exact key 9 (by omega)
theorem shr7 {u : Int} (h : 0 ≤ u) : stdOps.sh .shr .u64 u 7 = u / 128 := by
  simp only [stdOps, IntKind.bits]
  have e1 : (2 : Int) ^ (min (Int.toNat 7) 64) = 128 := by decide
  rw [e1, Int.fdiv_eq_ediv_of_nonneg _ (by decide)]
theorem f107_l0_is : ∀ (k f fuel : Nat) (u : Nat) (w : Int), u < 128 ^ (k + 1) → (k = 0 ∨ 128 ^ k ≤ u) → k < f → 0 ≤ w → w + k < 1000 → f107_l0 stdOps fuel f w (u : Int) = some (.x0 (w + k)) := by
  intro k
  induction k with
  | zero =>
    intro f fuel u w hu _ hf _ _
    obtain ⟨f, rfl⟩ : ∃ g, f = g + 1 := ⟨f - 1, by omega⟩
    rw [f107_l0, ifB_f (by simp [stdOps]; omega)]
    simp
  | succ k ih =>
    intro f fuel u w hu h2 hf hw hw2
    obtain ⟨f, rfl⟩ : ∃ g, f = g + 1 := ⟨f - 1, by omega⟩
    have h3 : 128 ^ (k + 1) ≤ u := by rcases h2 with h2 | h2 <;> omega
    have h4 : u / 128 < 128 ^ (k + 1) := by rw [Nat.div_lt_iff_lt_mul (by decide), ← Nat.pow_succ]; exact hu
    have h5 : 128 ^ k ≤ u / 128 := by rw [Nat.le_div_iff_mul_le (by decide), ← Nat.pow_succ]; exact h3
    have h6 : 128 ≤ 128 ^ (k + 1) := by rw [Nat.pow_succ]; have := Nat.pow_pos (n := k) (show 0 < 128 by decide); omega
    rw [f107_l0, ifB_t (by simp [stdOps]; omega), req_eq _ (by simp [stdOps]), shr7 (by omega)]
    have e1 : stdOps.ar .add .i64 w 1 = w + 1 := by simp only [stdOps]; rw [wr_i64 (by omega) (by omega)]
    have e2 : ((u : Int) / 128) = ((u / 128 : Nat) : Int) := by omega
    rw [e1, e2, ih f fuel (u / 128) (w + 1) h4 (.inr h5) (by omega) (by omega) (by omega)]
    congr 2; omega
theorem f107_is {n : Int} (h : In64 n) {fuel k : Nat} (hf : 12 ≤ fuel) (hk : k ≤ 9) (h1 : zz n < 128 ^ (k + 1)) (h2 : k = 0 ∨ 128 ^ k ≤ zz n) : f107 stdOps fuel n = some (.v0 ((k : Int) + 1)) := by
  unfold f107
  rw [bindR_eq (f106_is h fuel)]
  simp only
  rw [bindR_eq (f107_l0_is k fuel fuel (zz n) 1 h1 h2 (by omega) (by omega) (by omega))]
  simp only
  congr 2; omega
theorem shrk {u k : Nat} (hk : k ≤ 9) : stdOps.sh .shr .u64 (u : Int) (stdOps.ar .mul .i64 7 (k : Int)) = ((u / 128 ^ k : Nat) : Int) := by
  simp only [stdOps, IntKind.bits]
  rw [wr_i64 (by omega) (by omega)]
  have e1 : (7 * (k : Int)).toNat = 7 * k := by omega
  have e2 : (2 : Int) ^ (7 * k) = ((128 ^ k : Nat) : Int) := by
    rw [Int.pow_mul]; norm_cast
  have hp : (0 : Int) ≤ ((128 ^ k : Nat) : Int) := Int.natCast_nonneg _
  rw [e1, Nat.min_eq_left (by omega), e2, Int.fdiv_eq_ediv_of_nonneg _ hp]
  norm_cast
theorem room_ok {xs ys : List AV} (h : xs.length + ys.length ≤ 2 ^ 40) : stdOps.room xs ys 1 := by
  simp only [stdOps]; omega
theorem f76_l1_is : ∀ (k f fuel : Nat) (u : Nat) (a1 : List AV) (w21 : Int) (pos : Nat) (acc : List AV), k ≤ 9 → u < 18446744073709551616 → k < f → acc.length + k ≤ 2 ^ 40 - 10 →
    ∃ pos', f76_l1 stdOps fuel (u : Int) a1 w21 f pos acc (k : Int) = some (.x0 (acc ++ (hi u k).map byt) pos') := by
  intro k
  induction k with
  | zero =>
    intro f fuel u a1 w21 pos acc hk hu hf hl
    obtain ⟨f, rfl⟩ : ∃ g, f = g + 1 := ⟨f - 1, by omega⟩
    refine ⟨pos, ?_⟩
    rw [f76_l1, ifB_f (by simp [stdOps])]
    simp [hi]
  | succ k ih =>
    intro f fuel u a1 w21 pos acc hk hu hf hl
    obtain ⟨f, rfl⟩ : ∃ g, f = g + 1 := ⟨f - 1, by omega⟩
    have e1 : (AV.int .u8 (stdOps.ar .or .u8 (stdOps.wrap .u8 (stdOps.sh .shr .u64 (u : Int) (stdOps.ar .mul .i64 7 ((k + 1 : Nat) : Int)))) 128)) = byt (u / 128 ^ (k + 1) % 128 + 128) := by
      rw [shrk (by omega)]
      have : stdOps.wrap .u8 ((u / 128 ^ (k + 1) : Nat) : Int) = ((u / 128 ^ (k + 1) % 256 : Nat) : Int) := by simp only [stdOps]; rw [wr_u8m]; omega
      rw [this]
      have h2 : stdOps.ar .or .u8 ((u / 128 ^ (k + 1) % 256 : Nat) : Int) 128 = Pt.bits .or .u8 ((u / 128 ^ (k + 1) % 256 : Nat) : Int) 128 := rfl
      rw [h2, or128 (by omega)]
      unfold byt
      congr 2
      omega
    have e2 : stdOps.ar .sub .i64 ((k + 1 : Nat) : Int) 1 = (k : Int) := by simp only [stdOps]; rw [wr_i64 (by omega) (by omega)]; omega
    obtain ⟨pos', hp⟩ := ih f fuel u a1 w21 (stdOps.padd pos [byt (u / 128 ^ (k + 1) % 128 + 128)]) (acc ++ [byt (u / 128 ^ (k + 1) % 128 + 128)]) (by omega) hu (by omega) (by simp; omega)
    refine ⟨pos', ?_⟩
    rw [f76_l1, ifB_t (by simp [stdOps])]
    rw [e1, e2]
    rw [req_eq _ (by simp only [stdOps]; rw [wr_i64 (by omega) (by omega)]; omega), req_eq _ (room_ok (by simp; omega))]
    have e3 : stdOps.apnd acc [byt (u / 128 ^ (k + 1) % 128 + 128)] = acc ++ [byt (u / 128 ^ (k + 1) % 128 + 128)] := rfl
    rw [e3, hp]
    simp [hi]
theorem form_hi {u k : Nat} (hk : k ≤ 9) (h1 : u < 128 ^ (k + 1)) (h2 : k = 0 ∨ 128 ^ k ≤ u) : form u = hi u k ++ [u % 128] := by
  unfold form
  rw [hi_gh k u h1 h2, gh_more k 10 (u / 128) (by rw [Nat.div_lt_iff_lt_mul (by decide), ← Nat.pow_succ]; exact h1) (by omega)]
theorem hi_len (u : Nat) : ∀ k, (hi u k).length = k
  | 0 => rfl
  | k + 1 => by simp [hi, hi_len u k]
/-- The bytes of numbers. -/
def encs (ns : List Int) : List Nat := ns.flatMap fun n => form (zz n)
def av64 (ns : List Int) : List AV := ns.map (AV.int .i64)
theorem get_int {ns : List Int} {i : Nat} {n : Int} (h : ns[i]? = some n) : stdOps.get (av64 ns) (i : Int) = some (.int .i64 n) := by
  simp [stdOps, av64, h]
theorem f76_l0_is : ∀ (d f fuel i : Nat) (ns : List Int) (pos : Nat) (acc : List AV), i + d = ns.length → (∀ n ∈ ns, In64 n) → d < f → 12 ≤ fuel → ns.length < 2 ^ 40 → acc.length + 10 * d ≤ 2 ^ 40 - 20 →
    ∃ pos', f76_l0 stdOps fuel (av64 ns) f pos acc (i : Int) = some (.x0 (acc ++ (encs (ns.drop i)).map byt) pos') := by
  intro d
  induction d with
  | zero =>
    intro f fuel i ns pos acc hi' hn hf hfu hl hr
    obtain ⟨f, rfl⟩ : ∃ g, f = g + 1 := ⟨f - 1, by omega⟩
    refine ⟨pos, ?_⟩
    rw [f76_l0, ifB_f (by simp [stdOps, av64]; omega), List.drop_of_length_le (by omega)]
    simp [encs]
  | succ d ih =>
    intro f fuel i ns pos acc hi' hn hf hfu hl hr
    obtain ⟨f, rfl⟩ : ∃ g, f = g + 1 := ⟨f - 1, by omega⟩
    have hlt : i < ns.length := by omega
    have hget : ns[i]? = some ns[i] := List.getElem?_eq_getElem hlt
    have h64 := hn _ (List.getElem_mem hlt)
    obtain ⟨k, hk, h1, h2⟩ := groups (zz ns[i]) (zz_lt h64)
    obtain ⟨p1, hp1⟩ := f76_l1_is k fuel fuel (zz ns[i]) (av64 ns) (i : Int) pos acc hk (zz_lt h64) (by omega) (by omega)
    have e0 : stdOps.ar .sub .i64 ((k : Int) + 1) 1 = (k : Int) := by simp only [stdOps]; rw [wr_i64 (by omega) (by omega)]; omega
    have e1 : (AV.int .u8 (stdOps.ar .and .u8 (stdOps.wrap .u8 (zz ns[i] : Int)) 127)) = byt (zz ns[i] % 128) := by
      have : stdOps.wrap .u8 (zz ns[i] : Int) = ((zz ns[i] % 256 : Nat) : Int) := by simp only [stdOps]; rw [wr_u8m]; omega
      rw [this]
      have h2 : stdOps.ar .and .u8 ((zz ns[i] % 256 : Nat) : Int) 127 = Pt.bits .and .u8 ((zz ns[i] % 256 : Nat) : Int) 127 := rfl
      rw [h2, and127 (by omega)]
      unfold byt
      congr 2
      omega
    have e2 : stdOps.ar .add .i64 (i : Int) 1 = ((i + 1 : Nat) : Int) := by simp only [stdOps]; rw [wr_i64 (by omega) (by omega)]; omega
    have hlen := hi_len (zz ns[i]) k
    obtain ⟨p2, hp2⟩ := ih f fuel (i + 1) ns (stdOps.padd p1 [byt (zz ns[i] % 128)]) (acc ++ (hi (zz ns[i]) k).map byt ++ [byt (zz ns[i] % 128)]) (by omega) hn (by omega) hfu hl (by simp only [List.length_append, List.length_map, List.length_cons, List.length_nil]; omega)
    refine ⟨p2, ?_⟩
    rw [f76_l0, ifB_t (by simp [stdOps, av64]; omega), req_eq _ (by simp [stdOps, av64]; omega), getA_eq (get_int hget)]
    simp only [sh2]
    rw [bindR_eq (f106_is h64 fuel)]
    simp only
    rw [bindR_eq (f107_is h64 hfu hk h1 h2)]
    simp only
    rw [e0, bindR_eq hp1]
    simp only
    rw [e1, req_eq _ (room_ok (by simp only [List.length_append, List.length_map, List.length_cons, List.length_nil]; omega)), e2]
    have e3 : stdOps.apnd (acc ++ (hi (zz ns[i]) k).map byt) [byt (zz ns[i] % 128)] = acc ++ (hi (zz ns[i]) k).map byt ++ [byt (zz ns[i] % 128)] := rfl
    rw [e3, hp2, List.drop_eq_getElem_cons hlt]
    simp only [encs, List.flatMap_cons, form_hi hk h1 h2, List.map_append, List.append_assoc, List.map_cons, List.map_nil]
theorem f76_is {ns : List Int} {b : List AV} {fuel : Nat} (hn : ∀ n ∈ ns, In64 n) (hl : ns.length < 2 ^ 30) (hf : ns.length + 12 < fuel) (hb : b.length + 10 * ns.length ≤ 2 ^ 40 - 20) : f76 stdOps fuel b (av64 ns) = some (.v0 (b ++ (encs ns).map byt)) := by
  unfold f76
  have e1 : f105 stdOps fuel b = some (.v0 b) := by
    unfold f105
    rw [req_eq _ (by simp [stdOps]), req_eq _ (by simp [stdOps]), req_eq _ (by simp [stdOps])]
    simp [stdOps]
  rw [bindR_eq e1]
  simp only
  obtain ⟨p, hp⟩ := f76_l0_is ns.length fuel fuel 0 ns 0 b (by omega) hn (by omega) (by omega) (by omega) hb
  rw [Int.ofNat_zero] at hp
  rw [bindR_eq hp]
  simp
theorem form_len {u : Nat} (h : u < 18446744073709551616) : (form u).length ≤ 10 := by
  obtain ⟨k, hk, h1, h2⟩ := groups u h
  rw [form_hi hk h1 h2, List.length_append, hi_len]; simp; omega
theorem f112_l0_is : ∀ (d f fuel i : Nat) (ns : List Int) (pos : Nat) (acc : List AV), i + d = ns.length → (∀ n ∈ ns, In64 n) → d < f → 12 ≤ fuel → ns.length < 2 ^ 40 → acc.length + 10 * d ≤ 2 ^ 40 - 20 →
    ∃ pos', f112_l0 stdOps fuel (av64 ns) f pos acc (i : Int) = some (.x0 (acc ++ (encs (ns.drop i)).map byt) pos') := by
  intro d
  induction d with
  | zero =>
    intro f fuel i ns pos acc hi' hn hf hfu hl hr
    obtain ⟨f, rfl⟩ : ∃ g, f = g + 1 := ⟨f - 1, by omega⟩
    refine ⟨pos, ?_⟩
    rw [f112_l0, ifB_f (by simp [stdOps, av64]; omega), List.drop_of_length_le (by omega)]
    simp [encs]
  | succ d ih =>
    intro f fuel i ns pos acc hi' hn hf hfu hl hr
    obtain ⟨f, rfl⟩ : ∃ g, f = g + 1 := ⟨f - 1, by omega⟩
    have hlt : i < ns.length := by omega
    have hget : ns[i]? = some ns[i] := List.getElem?_eq_getElem hlt
    have h64 := hn _ (List.getElem_mem hlt)
    have hfl := form_len (zz_lt h64)
    have e2 : stdOps.ar .add .i64 (i : Int) 1 = ((i + 1 : Nat) : Int) := by simp only [stdOps]; rw [wr_i64 (by omega) (by omega)]; omega
    obtain ⟨p2, hp2⟩ := ih f fuel (i + 1) ns (stdOps.padd pos ((form (zz ns[i])).map byt)) (acc ++ (form (zz ns[i])).map byt) (by omega) hn (by omega) hfu hl (by simp only [List.length_append, List.length_map]; omega)
    refine ⟨p2, ?_⟩
    rw [f112_l0, ifB_t (by simp [stdOps, av64]; omega), req_eq _ (by simp [stdOps, av64]; omega), getA_eq (get_int hget)]
    simp only [sh2]
    rw [bindR_eq (f125_is h64 hfu)]
    simp only
    rw [req_eq _ (room_ok (by simp only [List.length_map]; omega)), e2]
    have e3 : stdOps.apnd acc ((form (zz ns[i])).map byt) = acc ++ (form (zz ns[i])).map byt := rfl
    rw [e3, hp2, List.drop_eq_getElem_cons hlt]
    simp only [encs, List.flatMap_cons, List.map_append, List.append_assoc]
theorem f112_is {ns : List Int} {b : List AV} {fuel : Nat} (hn : ∀ n ∈ ns, In64 n) (hl : ns.length < 2 ^ 30) (hf : ns.length + 12 < fuel) (hb : b.length + 10 * ns.length ≤ 2 ^ 40 - 20) : f112 stdOps fuel b (av64 ns) = some (.v0 (b ++ (encs ns).map byt)) := by
  unfold f112
  rw [req_eq _ (room_ok (by simp only [List.length_nil]; omega))]
  have e1 : stdOps.apnd [] b = b := by simp [stdOps]
  obtain ⟨p, hp⟩ := f112_l0_is ns.length fuel fuel 0 ns (stdOps.pos [] b) b (by omega) hn (by omega) (by omega) (by omega) hb
  rw [Int.ofNat_zero] at hp
  rw [e1, bindR_eq hp]
  simp
theorem f85_is {n : Int} {b : List AV} {fuel : Nat} (hn : In64 n) (hf : 13 < fuel) (hb : b.length ≤ 2 ^ 39) : f85 stdOps fuel b n = some (.v0 (b ++ (form (zz n)).map byt)) := by
  unfold f85
  have := f112_is (ns := [n]) (b := b) (fuel := fuel) (by simpa using hn) (by simp) (by simpa using hf) (by simp; omega)
  rw [show [AV.int .i64 n] = av64 [n] from rfl, bindR_eq this]
  simp [encs]
theorem f84_l0_is : ∀ (d f fuel i : Nat) (ns : List Int) (acc : List AV), i + d = ns.length → (∀ n ∈ ns, In64 n) → d < f → 14 ≤ fuel → ns.length < 2 ^ 30 → acc.length + 10 * d ≤ 2 ^ 39 →
    f84_l0 stdOps fuel (av64 ns) f acc (i : Int) = some (.x0 (acc ++ (encs (ns.drop i)).map byt)) := by
  intro d
  induction d with
  | zero =>
    intro f fuel i ns acc hi' hn hf hfu hl hr
    obtain ⟨f, rfl⟩ : ∃ g, f = g + 1 := ⟨f - 1, by omega⟩
    rw [f84_l0, ifB_f (by simp [stdOps, av64]; omega), List.drop_of_length_le (by omega)]
    simp [encs]
  | succ d ih =>
    intro f fuel i ns acc hi' hn hf hfu hl hr
    obtain ⟨f, rfl⟩ : ∃ g, f = g + 1 := ⟨f - 1, by omega⟩
    have hlt : i < ns.length := by omega
    have hget : ns[i]? = some ns[i] := List.getElem?_eq_getElem hlt
    have h64 := hn _ (List.getElem_mem hlt)
    have hfl := form_len (zz_lt h64)
    have e2 : stdOps.ar .add .i64 (i : Int) 1 = ((i + 1 : Nat) : Int) := by simp only [stdOps]; rw [wr_i64 (by omega) (by omega)]; omega
    rw [f84_l0, ifB_t (by simp [stdOps, av64]; omega), req_eq _ (by simp [stdOps, av64]; omega), getA_eq (get_int hget)]
    simp only [sh3]
    rw [bindR_eq (f85_is h64 (by omega) (by omega))]
    simp only
    rw [e2, ih f fuel (i + 1) ns (acc ++ (form (zz ns[i])).map byt) (by omega) hn (by omega) hfu hl (by simp only [List.length_append, List.length_map]; omega), List.drop_eq_getElem_cons hlt]
    simp only [encs, List.flatMap_cons, List.map_append, List.append_assoc]
theorem f84_is {ns : List Int} {b : List AV} {fuel : Nat} (hn : ∀ n ∈ ns, In64 n) (hl : ns.length < 2 ^ 30) (hf : ns.length + 14 < fuel) (hb : b.length + 10 * ns.length ≤ 2 ^ 39) : f84 stdOps fuel b (av64 ns) = some (.v0 (b ++ (encs ns).map byt)) := by
  unfold f84
  have hp := f84_l0_is ns.length fuel fuel 0 ns b (by omega) hn (by omega) (by omega) hl hb
  rw [Int.ofNat_zero] at hp
  rw [bindR_eq hp]
  simp
end Go.Proofs.Ytilffanmaicakaa.A

/- A graph's bytes: the program's and the document's. -/
namespace Go.Proofs.Ytilffanmaicakaa.A
open Go Go.Pt Go.Gr

def edEnc (e : Ed) : List Nat := encs [e.f, e.p]
def opEnc (o : Gr.Op) : List Nat := encs [o.k, o.p, o.f, o.a, (o.i.length : Int)] ++ o.i.flatMap edEnc
/-- A graph's bytes. -/
def gEnc (n : Int) (l : List Gr.Op) : List Nat := encs [n, (l.length : Int)] ++ l.flatMap opEnc
def EdIn (e : Ed) : Prop := In64 e.f ∧ In64 e.p
def OpIn (o : Gr.Op) : Prop := In64 o.k ∧ In64 o.p ∧ In64 o.f ∧ In64 o.a ∧ ∀ e ∈ o.i, EdIn e
theorem in64_small {n : Int} (h : 0 ≤ n) (h' : n < 2 ^ 60) : In64 n := by unfold In64; omega
theorem encs_len {ns : List Int} (h : ∀ n ∈ ns, In64 n) : (encs ns).length ≤ 10 * ns.length := by
  induction ns with
  | nil => simp [encs]
  | cons n ns ih =>
    have h1 := form_len (zz_lt (h n List.mem_cons_self))
    have h2 := ih fun x hx => h x (List.mem_cons_of_mem _ hx)
    simp only [encs, List.flatMap_cons, List.length_append, List.length_cons] at h2 ⊢
    omega
theorem get_av {α : Type} {f : α → AV} {l : List α} {i : Nat} {x : α} (h : l[i]? = some x) : stdOps.get (l.map f) (i : Int) = some (f x) := by simp [stdOps, h]
theorem inb_av {α : Type} {f : α → AV} {l : List α} {i : Nat} (h : i < l.length) : stdOps.inb (i : Int) (stdOps.len (l.map f)) := by simp [stdOps]; omega
theorem lss_t {α : Type} {f : α → AV} {l : List α} {i : Nat} (h : i < l.length) : stdOps.cmp .lss (i : Int) (stdOps.len (l.map f)) = true := by simp [stdOps]; omega
theorem lss_f {α : Type} {f : α → AV} {l : List α} {i : Nat} (h : ¬ i < l.length) : stdOps.cmp .lss (i : Int) (stdOps.len (l.map f)) = false := by simp [stdOps]; omega
theorem add1 {i : Nat} (h : i < 2 ^ 60) : stdOps.ar .add .i64 (i : Int) 1 = ((i + 1 : Nat) : Int) := by simp only [stdOps]; rw [wr_i64 (by omega) (by omega)]; omega
theorem edEnc_len {e : Ed} (h : EdIn e) : (edEnc e).length ≤ 20 := by
  have := encs_len (ns := [e.f, e.p]) (by simp; exact h)
  simpa [edEnc] using this

theorem f37_l1_is : ∀ (d f fuel i : Nat) (es : List Ed) (a1 acc : List AV) (w : Int), i + d = es.length → (∀ e ∈ es, EdIn e) → d < f → 20 ≤ fuel → es.length < 2 ^ 30 → acc.length + 20 * d ≤ 2 ^ 38 →
    f37_l1 stdOps fuel (es.map Ed.av) a1 w f acc (i : Int) = some (.x0 (acc ++ ((es.drop i).flatMap edEnc).map byt)) := by
  intro d
  induction d with
  | zero =>
    intro f fuel i es a1 acc w hi' hn hf hfu hl hr
    obtain ⟨f, rfl⟩ : ∃ g, f = g + 1 := ⟨f - 1, by omega⟩
    rw [f37_l1, ifB_f (lss_f (by omega)), List.drop_of_length_le (by omega)]
    simp
  | succ d ih =>
    intro f fuel i es a1 acc w hi' hn hf hfu hl hr
    obtain ⟨f, rfl⟩ : ∃ g, f = g + 1 := ⟨f - 1, by omega⟩
    have hlt : i < es.length := by omega
    have hin := hn _ (List.getElem_mem hlt)
    have hel := edEnc_len hin
    rw [f37_l1, ifB_t (lss_t hlt), req_eq _ (inb_av hlt), getA_eq (get_av (List.getElem?_eq_getElem hlt))]
    simp only [sh74, Ed.av]
    rw [show [AV.int .i64 es[i].f, AV.int .i64 es[i].p] = av64 [es[i].f, es[i].p] from rfl, bindR_eq (f76_is (by simp; exact hin) (by simp) (by simp; omega) (by simp; omega))]
    simp only
    rw [add1 (by omega), ih f fuel (i + 1) es a1 _ w (by omega) hn (by omega) hfu hl (by simp only [List.length_append, List.length_map]; unfold edEnc at hel; omega), List.drop_eq_getElem_cons hlt]
    simp only [List.flatMap_cons, List.map_append, List.append_assoc, edEnc]
theorem f42_l1_is : ∀ (d f fuel i : Nat) (es : List Ed) (a1 acc : List AV) (w a0 b c e x : Int), i + d = es.length → (∀ e ∈ es, EdIn e) → d < f → 20 ≤ fuel → es.length < 2 ^ 30 → acc.length + 20 * d ≤ 2 ^ 38 →
    f42_l1 stdOps fuel (es.map Ed.av) w a0 a1 b c e x f acc (i : Int) = some (.x0 (acc ++ ((es.drop i).flatMap edEnc).map byt)) := by
  intro d
  induction d with
  | zero =>
    intro f fuel i es a1 acc w a0 b c e x hi' hn hf hfu hl hr
    obtain ⟨f, rfl⟩ : ∃ g, f = g + 1 := ⟨f - 1, by omega⟩
    rw [f42_l1, ifB_f (lss_f (by omega)), List.drop_of_length_le (by omega)]
    simp
  | succ d ih =>
    intro f fuel i es a1 acc w a0 b c e x hi' hn hf hfu hl hr
    obtain ⟨f, rfl⟩ : ∃ g, f = g + 1 := ⟨f - 1, by omega⟩
    have hlt : i < es.length := by omega
    have hin := hn _ (List.getElem_mem hlt)
    have hel := edEnc_len hin
    rw [f42_l1, ifB_t (lss_t hlt), req_eq _ (inb_av hlt), getA_eq (get_av (List.getElem?_eq_getElem hlt))]
    simp only [sh74, Ed.av]
    rw [req_eq _ (inb_av hlt), getA_eq (get_av (List.getElem?_eq_getElem hlt))]
    simp only [Ed.av]
    rw [show [AV.int .i64 es[i].f, AV.int .i64 es[i].p] = av64 [es[i].f, es[i].p] from rfl, bindR_eq (f84_is (by simp; exact hin) (by simp) (by simp; omega) (by simp; omega))]
    simp only
    have := ih f fuel (i + 1) es a1 (acc ++ (encs [es[i].f, es[i].p]).map byt) w a0 b c e x (by omega) hn (by omega) hfu hl (by simp only [List.length_append, List.length_map]; unfold edEnc at hel; omega)
    rw [add1 (by omega)]
    refine this.trans ?_
    rw [List.drop_eq_getElem_cons hlt]
    simp only [List.flatMap_cons, List.map_append, List.append_assoc, edEnc]
theorem flat_len20 {es : List Ed} (h : ∀ e ∈ es, EdIn e) : (es.flatMap edEnc).length ≤ 20 * es.length := by
  induction es with
  | nil => simp
  | cons e es ih =>
    have h1 := edEnc_len (h e List.mem_cons_self)
    have h2 := ih fun x hx => h x (List.mem_cons_of_mem _ hx)
    simp only [List.flatMap_cons, List.length_append, List.length_cons]
    omega
theorem head_in {o : Gr.Op} (h : OpIn o) (hl : o.i.length ≤ 4) : ∀ n ∈ [o.k, o.p, o.f, o.a, (o.i.length : Int)], In64 n := by
  obtain ⟨h1, h2, h3, h4, _⟩ := h
  intro n hn
  simp only [List.mem_cons, List.not_mem_nil, or_false] at hn
  rcases hn with rfl | rfl | rfl | rfl | rfl <;> first | assumption | exact in64_small (by omega) (by omega)
theorem opEnc_len {o : Gr.Op} (h : OpIn o) (hl : o.i.length ≤ 4) : (opEnc o).length ≤ 130 := by
  have h1 := encs_len (head_in h hl)
  have h2 := flat_len20 h.2.2.2.2
  unfold opEnc
  simp only [List.length_append]
  simp only [List.length_cons, List.length_nil] at h1
  omega
theorem f37_l0_is : ∀ (d f fuel i : Nat) (l : List Gr.Op) (acc : List AV), i + d = l.length → (∀ o ∈ l, OpIn o ∧ o.i.length ≤ 4) → d < f → 30 ≤ fuel → l.length ≤ 24 → acc.length + 130 * d ≤ 2 ^ 36 →
    f37_l0 stdOps fuel (l.map Gr.Op.av) f acc (i : Int) = some (.x0 (acc ++ ((l.drop i).flatMap opEnc).map byt)) := by
  intro d
  induction d with
  | zero =>
    intro f fuel i l acc hi' hn hf hfu hl hr
    obtain ⟨f, rfl⟩ : ∃ g, f = g + 1 := ⟨f - 1, by omega⟩
    rw [f37_l0, ifB_f (lss_f (by omega)), List.drop_of_length_le (by omega)]
    simp
  | succ d ih =>
    intro f fuel i l acc hi' hn hf hfu hl hr
    obtain ⟨f, rfl⟩ : ∃ g, f = g + 1 := ⟨f - 1, by omega⟩
    have hlt : i < l.length := by omega
    obtain ⟨hin, h4⟩ := hn _ (List.getElem_mem hlt)
    have hol := opEnc_len hin h4
    have hh := head_in hin h4
    have hhl := encs_len hh
    simp only [List.length_cons, List.length_nil] at hhl
    rw [f37_l0, ifB_t (lss_t hlt), req_eq _ (inb_av hlt), getA_eq (get_av (List.getElem?_eq_getElem hlt))]
    simp only [sh62, Gr.Op.av]
    have e5 : stdOps.len (l[i].i.map Ed.av) = (l[i].i.length : Int) := by simp [stdOps]
    rw [e5, show [AV.int .i64 l[i].k, AV.int .i64 l[i].p, AV.int .i64 l[i].f, AV.int .i64 l[i].a, AV.int .i64 (l[i].i.length : Int)] = av64 [l[i].k, l[i].p, l[i].f, l[i].a, (l[i].i.length : Int)] from rfl, bindR_eq (f76_is hh (by simp) (by simp; omega) (by simp; omega))]
    simp only
    have h1 := f37_l1_is l[i].i.length fuel fuel 0 l[i].i (l.map Gr.Op.av) (acc ++ (encs [l[i].k, l[i].p, l[i].f, l[i].a, (l[i].i.length : Int)]).map byt) (i : Int) (by omega) hin.2.2.2.2 (by omega) (by omega) (by omega) (by simp only [List.length_append, List.length_map]; omega)
    rw [Int.ofNat_zero, List.drop_zero] at h1
    rw [bindR_eq h1]
    simp only
    rw [add1 (by omega)]
    refine (ih f fuel (i + 1) l _ (by omega) hn (by omega) hfu hl ?_).trans ?_
    · unfold opEnc at hol
      simp only [List.length_append, List.length_map] at hol ⊢
      omega
    · rw [List.drop_eq_getElem_cons hlt]
      simp only [List.flatMap_cons, List.map_append, List.append_assoc, opEnc]
theorem f42_l0_is : ∀ (d f fuel i : Nat) (l : List Gr.Op) (acc : List AV) (a0 : Int), i + d = l.length → (∀ o ∈ l, OpIn o ∧ o.i.length ≤ 4) → d < f → 30 ≤ fuel → l.length ≤ 24 → acc.length + 130 * d ≤ 2 ^ 36 →
    f42_l0 stdOps fuel (l.map Gr.Op.av) a0 f acc (i : Int) = some (.x0 (acc ++ ((l.drop i).flatMap opEnc).map byt)) := by
  intro d
  induction d with
  | zero =>
    intro f fuel i l acc a0 hi' hn hf hfu hl hr
    obtain ⟨f, rfl⟩ : ∃ g, f = g + 1 := ⟨f - 1, by omega⟩
    rw [f42_l0, ifB_f (lss_f (by omega)), List.drop_of_length_le (by omega)]
    simp
  | succ d ih =>
    intro f fuel i l acc a0 hi' hn hf hfu hl hr
    obtain ⟨f, rfl⟩ : ∃ g, f = g + 1 := ⟨f - 1, by omega⟩
    have hlt : i < l.length := by omega
    obtain ⟨hin, h4⟩ := hn _ (List.getElem_mem hlt)
    have hol := opEnc_len hin h4
    obtain ⟨g1, g2, g3, g4, g5⟩ := hin
    have q1 := encs_len (ns := [l[i].k, l[i].p, l[i].f]) (by simp; exact ⟨g1, g2, g3⟩)
    have q2 := form_len (zz_lt g4)
    have q3 := encs_len (ns := [(l[i].i.length : Int)]) (by simp; exact in64_small (by omega) (by omega))
    simp only [List.length_cons, List.length_nil] at q1 q3
    rw [f42_l0, ifB_t (lss_t hlt), req_eq _ (inb_av hlt), getA_eq (get_av (List.getElem?_eq_getElem hlt))]
    simp only [sh62, Gr.Op.av]
    have e5 : stdOps.len (l[i].i.map Ed.av) = (l[i].i.length : Int) := by simp [stdOps]
    rw [show [AV.int .i64 l[i].k, AV.int .i64 l[i].p, AV.int .i64 l[i].f] = av64 [l[i].k, l[i].p, l[i].f] from rfl, bindR_eq (f84_is (by simp; exact ⟨g1, g2, g3⟩) (by simp) (by simp; omega) (by simp; omega))]
    simp only
    rw [bindR_eq (f85_is g4 (by omega) (by simp only [List.length_append, List.length_map]; omega))]
    simp only
    rw [e5, show [AV.int .i64 (l[i].i.length : Int)] = av64 [(l[i].i.length : Int)] from rfl, bindR_eq (f84_is (by simp; exact in64_small (by omega) (by omega)) (by simp) (by simp; omega) (by simp only [List.length_append, List.length_map, List.length_cons, List.length_nil]; omega))]
    simp only
    have h1 := f42_l1_is l[i].i.length fuel fuel 0 l[i].i (l.map Gr.Op.av) (acc ++ (encs [l[i].k, l[i].p, l[i].f]).map byt ++ (form (zz l[i].a)).map byt ++ (encs [(l[i].i.length : Int)]).map byt) (i : Int) a0 l[i].k l[i].p l[i].f l[i].a (by omega) g5 (by omega) (by omega) (by omega) (by simp only [List.length_append, List.length_map]; omega)
    rw [Int.ofNat_zero, List.drop_zero] at h1
    rw [bindR_eq h1]
    simp only
    rw [add1 (by omega)]
    have hop : encs [l[i].k, l[i].p, l[i].f, l[i].a, (l[i].i.length : Int)] = encs [l[i].k, l[i].p, l[i].f] ++ (form (zz l[i].a) ++ encs [(l[i].i.length : Int)]) := by simp [encs]
    refine (ih f fuel (i + 1) l _ a0 (by omega) hn (by omega) hfu hl ?_).trans ?_
    · unfold opEnc at hol
      rw [hop] at hol
      simp only [List.length_append, List.length_map] at hol ⊢
      omega
    · rw [List.drop_eq_getElem_cons hlt]
      simp only [List.flatMap_cons, opEnc, hop, List.map_append, List.append_assoc]
theorem Good.four {n : Int} {l : List Gr.Op} (h : Good n l) (hin : ∀ o ∈ l, OpIn o) : ∀ o ∈ l, OpIn o ∧ o.i.length ≤ 4 := fun o ho => by
  obtain ⟨i, hi⟩ := List.mem_iff_getElem?.1 ho
  exact ⟨hin o ho, ins_le (h.in hi).2.2⟩
/-- What the program's Bytes gives. -/
theorem f37_is {n r e : Int} {l : List Gr.Op} (hl : (l.length : Int) < 2 ^ 48) (hc : Chk ⟨n, l⟩ r e) (hn : In64 n) (hin : ∀ o ∈ l, OpIn o) {fuel : Nat} (hf : 60 ≤ fuel) : f37 stdOps fuel n (l.map Gr.Op.av) = some (.v0 (if e = 0 then (gEnc n l).map byt else []) e) := by
  unfold f37
  have h26 : f26 stdOps fuel n (l.map Gr.Op.av) = some (.v0 r e) := by unfold f26; rw [chkF_eq hl hc]; rfl
  rw [bindR_eq h26]
  simp only
  by_cases he : e = 0
  · subst he
    have hG := good_of hc
    have h24 := hG.len
    have e5 : stdOps.len (l.map Gr.Op.av) = (l.length : Int) := by simp [stdOps]
    have hns : ∀ x ∈ [n, (l.length : Int)], In64 x := by simp; exact ⟨hn, in64_small (by omega) (by omega)⟩
    have q := encs_len hns
    simp only [List.length_cons, List.length_nil] at q
    rw [ifB_f (by simp [stdOps]), if_pos rfl, e5, show [AV.int .i64 n, AV.int .i64 (l.length : Int)] = av64 [n, (l.length : Int)] from rfl, bindR_eq (f76_is hns (by simp) (by simp; omega) (by simp))]
    simp only
    have h1 := f37_l0_is l.length fuel fuel 0 l ([] ++ (encs [n, (l.length : Int)]).map byt) (by omega) (hG.four hin) (by omega) (by omega) h24 (by simp only [List.nil_append, List.length_map]; omega)
    rw [Int.ofNat_zero, List.drop_zero] at h1
    rw [bindR_eq h1]
    simp [gEnc]
  · rw [ifB_t (by simp [stdOps, he]), if_neg he]
/-- What the document's Bytes gives. -/
theorem f42_is {n r e : Int} {l : List Gr.Op} (hl : (l.length : Int) < 2 ^ 48) (hc : Chk ⟨n, l⟩ r e) (hn : In64 n) (hin : ∀ o ∈ l, OpIn o) {fuel : Nat} (hf : 60 ≤ fuel) : f42 stdOps fuel n (l.map Gr.Op.av) = some (.v0 (if e = 0 then (gEnc n l).map byt else []) e) := by
  unfold f42
  have h27 : f27 stdOps fuel n (l.map Gr.Op.av) = some (.v0 r e) := by unfold f27; rw [chkF_eq hl hc]; rfl
  rw [bindR_eq h27]
  simp only
  by_cases he : e = 0
  · subst he
    have hG := good_of hc
    have h24 := hG.len
    have e5 : stdOps.len (l.map Gr.Op.av) = (l.length : Int) := by simp [stdOps]
    have hns : ∀ x ∈ [n, (l.length : Int)], In64 x := by simp; exact ⟨hn, in64_small (by omega) (by omega)⟩
    have q := encs_len hns
    simp only [List.length_cons, List.length_nil] at q
    rw [ifB_f (by simp [stdOps]), if_pos rfl, e5, show [AV.int .i64 n, AV.int .i64 (l.length : Int)] = av64 [n, (l.length : Int)] from rfl, bindR_eq (f84_is hns (by simp) (by simp; omega) (by simp))]
    simp only
    have h1 := f42_l0_is l.length fuel fuel 0 l ([] ++ (encs [n, (l.length : Int)]).map byt) n (by omega) (hG.four hin) (by omega) (by omega) h24 (by simp only [List.nil_append, List.length_map]; omega)
    rw [Int.ofNat_zero, List.drop_zero] at h1
    rw [bindR_eq h1]
    simp [gEnc]
  · rw [ifB_t (by simp [stdOps, he]), if_neg he]
end Go.Proofs.Ytilffanmaicakaa.A

/- Are two graphs the same: the program's answer and the document's. -/
namespace Go.Proofs.Ytilffanmaicakaa.A
open Go Go.Pt Go.Gr

theorem drop_eq {α : Type} {l m : List α} {i : Nat} (h : i < l.length) (h' : i < m.length) : l.drop i = m.drop i ↔ l[i] = m[i] ∧ l.drop (i + 1) = m.drop (i + 1) := by
  rw [List.drop_eq_getElem_cons h, List.drop_eq_getElem_cons h', List.cons.injEq]
theorem ed_eq {x y : Ed} : x = y ↔ x.f = y.f ∧ x.p = y.p := by
  obtain ⟨a, b⟩ := x; obtain ⟨c, d⟩ := y; simp
theorem op_eq {x y : Gr.Op} : x = y ↔ x.k = y.k ∧ x.p = y.p ∧ x.f = y.f ∧ x.a = y.a ∧ x.i = y.i := by
  obtain ⟨a, b, c, d, e⟩ := x; obtain ⟨a', b', c', d', e'⟩ := y; simp
theorem f92_l0_is : ∀ (d f fuel i : Nat) (es fs : List Ed), i + d = es.length → es.length = fs.length → d < f → es.length < 2 ^ 59 →
    ∃ r, f92_l0 stdOps fuel (es.map Ed.av) (fs.map Ed.av) f (i : Int) = some r ∧ (r = .x1 ↔ es.drop i = fs.drop i) := by
  intro d
  induction d with
  | zero =>
    intro f fuel i es fs hi' hl hf h59
    obtain ⟨f, rfl⟩ : ∃ g, f = g + 1 := ⟨f - 1, by omega⟩
    refine ⟨.x1, ?_, ?_⟩
    · rw [f92_l0, ifB_f (lss_f (by omega))]
    · rw [List.drop_of_length_le (by omega), List.drop_of_length_le (by omega)]; simp
  | succ d ih =>
    intro f fuel i es fs hi' hl hf h59
    obtain ⟨f, rfl⟩ : ∃ g, f = g + 1 := ⟨f - 1, by omega⟩
    have hlt : i < es.length := by omega
    have hlt' : i < fs.length := by omega
    rw [f92_l0, ifB_t (lss_t hlt), req_eq _ (inb_av hlt), getA_eq (get_av (List.getElem?_eq_getElem hlt))]
    simp only [sh74, Ed.av]
    rw [req_eq _ (inb_av hlt'), getA_eq (get_av (List.getElem?_eq_getElem hlt'))]
    simp only [Ed.av]
    rw [drop_eq hlt hlt', ed_eq]
    by_cases hc : es[i].f = fs[i].f ∧ es[i].p = fs[i].p
    · rw [ifB_f (by simp [stdOps, hc]), add1 (by omega)]
      obtain ⟨r, h1, h2⟩ := ih f fuel (i + 1) es fs (by omega) hl (by omega) h59
      exact ⟨r, h1, by rw [h2]; simp [hc]⟩
    · refine ⟨.x0, ?_, by simp [hc]⟩
      rw [ifB_t (by simp [stdOps]; grind)]
theorem len_av {α : Type} {f : α → AV} {l : List α} : stdOps.len (l.map f) = (l.length : Int) := by simp [stdOps]
theorem f92_is {es fs : List Ed} {fuel : Nat} (hf : es.length < fuel) (h59 : es.length < 2 ^ 59) : ∃ b, f92 stdOps fuel (es.map Ed.av) (fs.map Ed.av) = some (.v0 b) ∧ (b = true ↔ es = fs) := by
  unfold f92
  rw [len_av, len_av]
  by_cases hl : es.length = fs.length
  · rw [ifB_f (by simp [stdOps, hl])]
    obtain ⟨r, h1, h2⟩ := f92_l0_is es.length fuel fuel 0 es fs (by omega) hl hf h59
    rw [Int.ofNat_zero] at h1
    rw [bindR_eq h1]
    cases r with
    | x0 => exact ⟨false, rfl, by simp at h2; simp [h2]⟩
    | x1 => exact ⟨true, rfl, by simp at h2; simp [h2]⟩
  · rw [ifB_t (by simp [stdOps]; omega)]
    exact ⟨false, rfl, by simp; intro h; exact hl (by rw [h])⟩
theorem f91_is {x y : Gr.Op} {fuel : Nat} (hf : x.i.length < fuel) (h59 : x.i.length < 2 ^ 59) : ∃ b, f91 stdOps fuel x.k x.p x.f x.a (x.i.map Ed.av) y.k y.p y.f y.a (y.i.map Ed.av) = some (.v0 b) ∧ (b = true ↔ x = y) := by
  unfold f91
  rw [op_eq]
  by_cases hc : x.k = y.k ∧ x.p = y.p ∧ x.f = y.f ∧ x.a = y.a
  · obtain ⟨c1, c2, c3, c4⟩ := hc
    rw [ifB_t (by simp [stdOps, c1, c2, c3, c4])]
    obtain ⟨b, h1, h2⟩ := f92_is (es := x.i) (fs := y.i) hf h59
    rw [bindR_eq h1]
    exact ⟨b, rfl, by rw [h2]; simp [c1, c2, c3, c4]⟩
  · rw [ifB_f (by simp [stdOps]; grind)]
    exact ⟨false, rfl, by simp; grind⟩
theorem f90_l0_is : ∀ (d f fuel i : Nat) (l m : List Gr.Op), i + d = l.length → l.length = m.length → d < f → l.length < 2 ^ 59 → (∀ o ∈ l, o.i.length < fuel ∧ o.i.length < 2 ^ 59) →
    ∃ r, f90_l0 stdOps fuel (l.map Gr.Op.av) (m.map Gr.Op.av) f (i : Int) = some r ∧ (r = .x1 ↔ l.drop i = m.drop i) := by
  intro d
  induction d with
  | zero =>
    intro f fuel i l m hi' hl hf h59 hin
    obtain ⟨f, rfl⟩ : ∃ g, f = g + 1 := ⟨f - 1, by omega⟩
    refine ⟨.x1, ?_, ?_⟩
    · rw [f90_l0, ifB_f (lss_f (by omega))]
    · rw [List.drop_of_length_le (by omega), List.drop_of_length_le (by omega)]; simp
  | succ d ih =>
    intro f fuel i l m hi' hl hf h59 hin
    obtain ⟨f, rfl⟩ : ∃ g, f = g + 1 := ⟨f - 1, by omega⟩
    have hlt : i < l.length := by omega
    have hlt' : i < m.length := by omega
    obtain ⟨q1, q2⟩ := hin _ (List.getElem_mem hlt)
    rw [f90_l0, ifB_t (lss_t hlt), req_eq _ (inb_av hlt), getA_eq (get_av (List.getElem?_eq_getElem hlt))]
    simp only [sh62, Gr.Op.av]
    rw [req_eq _ (inb_av hlt'), getA_eq (get_av (List.getElem?_eq_getElem hlt'))]
    simp only [Gr.Op.av]
    obtain ⟨b, h1, h2⟩ := f91_is (x := l[i]) (y := m[i]) q1 q2
    rw [bindR_eq h1]
    simp only
    rw [drop_eq hlt hlt', ← h2]
    cases b with
    | true =>
      rw [ifB_f (by simp [stdOps]), add1 (by omega)]
      obtain ⟨r, h3, h4⟩ := ih f fuel (i + 1) l m (by omega) hl (by omega) h59 hin
      exact ⟨r, h3, by rw [h4]; simp⟩
    | false => exact ⟨.x0, by rw [ifB_t (by simp [stdOps])], by simp⟩
theorem f90_is {l m : List Gr.Op} {fuel : Nat} (hf : l.length < fuel) (h59 : l.length < 2 ^ 59) (hin : ∀ o ∈ l, o.i.length < fuel ∧ o.i.length < 2 ^ 59) : ∃ b, f90 stdOps fuel (l.map Gr.Op.av) (m.map Gr.Op.av) = some (.v0 b) ∧ (b = true ↔ l = m) := by
  unfold f90
  rw [len_av, len_av]
  by_cases hl : l.length = m.length
  · rw [ifB_f (by simp [stdOps, hl])]
    obtain ⟨r, h1, h2⟩ := f90_l0_is l.length fuel fuel 0 l m (by omega) hl hf h59 hin
    rw [Int.ofNat_zero] at h1
    rw [bindR_eq h1]
    cases r with
    | x0 => exact ⟨false, rfl, by simp at h2; simp [h2]⟩
    | x1 => exact ⟨true, rfl, by simp at h2; simp [h2]⟩
  · rw [ifB_t (by simp [stdOps]; omega)]
    exact ⟨false, rfl, by simp; intro h; exact hl (by rw [h])⟩
/-- The program's Same. -/
theorem f44_is {n n' : Int} {l m : List Gr.Op} {fuel : Nat} (hf : l.length < fuel) (h59 : l.length < 2 ^ 59) (hin : ∀ o ∈ l, o.i.length < fuel ∧ o.i.length < 2 ^ 59) : ∃ b, f44 stdOps fuel n (l.map Gr.Op.av) n' (m.map Gr.Op.av) = some (.v0 b) ∧ (b = true ↔ n = n' ∧ l = m) := by
  unfold f44
  by_cases hn : n = n'
  · rw [ifB_t (by simp [stdOps, hn])]
    obtain ⟨b, h1, h2⟩ := f90_is (l := l) (m := m) hf h59 hin
    rw [bindR_eq h1]
    exact ⟨b, rfl, by rw [h2]; simp [hn]⟩
  · rw [ifB_f (by simp [stdOps, hn])]
    exact ⟨false, rfl, by simp [hn]⟩
theorem f39_l1_is : ∀ (d f fuel i : Nat) (es fs : List Ed) (w a0 a2 v24 v25 v26 v27 v29 v30 v31 v32 : Int) (a1 a3 : List AV), i + d = es.length → es.length = fs.length → d < f → es.length < 2 ^ 59 →
    ∃ r, f39_l1 stdOps fuel (es.map Ed.av) (fs.map Ed.av) w a0 a1 a2 a3 v24 v25 v26 v27 v29 v30 v31 v32 f (i : Int) = some r ∧ (r = .x1 ↔ es.drop i = fs.drop i) := by
  intro d
  induction d with
  | zero =>
    intro f fuel i es fs w a0 a2 v24 v25 v26 v27 v29 v30 v31 v32 a1 a3 hi' hl hf h59
    obtain ⟨f, rfl⟩ : ∃ g, f = g + 1 := ⟨f - 1, by omega⟩
    refine ⟨.x1, ?_, ?_⟩
    · rw [f39_l1, ifB_f (lss_f (by omega))]
    · rw [List.drop_of_length_le (by omega), List.drop_of_length_le (by omega)]; simp
  | succ d ih =>
    intro f fuel i es fs w a0 a2 v24 v25 v26 v27 v29 v30 v31 v32 a1 a3 hi' hl hf h59
    obtain ⟨f, rfl⟩ : ∃ g, f = g + 1 := ⟨f - 1, by omega⟩
    have hlt : i < es.length := by omega
    have hlt' : i < fs.length := by omega
    rw [f39_l1, ifB_t (lss_t hlt), req_eq _ (inb_av hlt), getA_eq (get_av (List.getElem?_eq_getElem hlt))]
    simp only [sh74, Ed.av]
    rw [req_eq _ (inb_av hlt'), getA_eq (get_av (List.getElem?_eq_getElem hlt'))]
    simp only [Ed.av]
    rw [drop_eq hlt hlt', ed_eq]
    by_cases hc : es[i].f = fs[i].f ∧ es[i].p = fs[i].p
    · rw [ifB_f (by simp [stdOps, hc]), add1 (by omega)]
      obtain ⟨r, h1, h2⟩ := ih f fuel (i + 1) es fs w a0 a2 v24 v25 v26 v27 v29 v30 v31 v32 a1 a3 (by omega) hl (by omega) h59
      exact ⟨r, h1, by rw [h2]; simp [hc]⟩
    · refine ⟨.x0, ?_, by simp [hc]⟩
      rw [ifB_t (by simp [stdOps]; grind)]
theorem f39_l0_is : ∀ (d f fuel i : Nat) (l m : List Gr.Op) (a0 a2 : Int), i + d = l.length → l.length = m.length → d < f → l.length < 2 ^ 59 → (∀ o ∈ l, o.i.length < fuel ∧ o.i.length < 2 ^ 59) →
    ∃ r, f39_l0 stdOps fuel (l.map Gr.Op.av) (m.map Gr.Op.av) a0 a2 f (i : Int) = some r ∧ (r = .x1 ↔ l.drop i = m.drop i) := by
  intro d
  induction d with
  | zero =>
    intro f fuel i l m a0 a2 hi' hl hf h59 hin
    obtain ⟨f, rfl⟩ : ∃ g, f = g + 1 := ⟨f - 1, by omega⟩
    refine ⟨.x1, ?_, ?_⟩
    · rw [f39_l0, ifB_f (lss_f (by omega))]
    · rw [List.drop_of_length_le (by omega), List.drop_of_length_le (by omega)]; simp
  | succ d ih =>
    intro f fuel i l m a0 a2 hi' hl hf h59 hin
    obtain ⟨f, rfl⟩ : ∃ g, f = g + 1 := ⟨f - 1, by omega⟩
    have hlt : i < l.length := by omega
    have hlt' : i < m.length := by omega
    obtain ⟨q1, q2⟩ := hin _ (List.getElem_mem hlt)
    rw [f39_l0, ifB_t (lss_t hlt), req_eq _ (inb_av hlt), getA_eq (get_av (List.getElem?_eq_getElem hlt))]
    simp only [sh62, Gr.Op.av]
    rw [req_eq _ (inb_av hlt'), getA_eq (get_av (List.getElem?_eq_getElem hlt'))]
    simp only [Gr.Op.av]
    rw [drop_eq hlt hlt', op_eq, len_av, len_av]
    by_cases hc : l[i].k = m[i].k ∧ l[i].p = m[i].p ∧ l[i].f = m[i].f ∧ l[i].a = m[i].a
    · obtain ⟨c1, c2, c3, c4⟩ := hc
      rw [ifB_f (by simp [stdOps, c1, c2, c3, c4])]
      by_cases hz : l[i].i.length = m[i].i.length
      · rw [ifB_f (by simp [stdOps, hz])]
        obtain ⟨r, h1, h2⟩ := f39_l1_is l[i].i.length fuel fuel 0 l[i].i m[i].i (i : Int) a0 a2 l[i].k l[i].p l[i].f l[i].a m[i].k m[i].p m[i].f m[i].a (l.map Gr.Op.av) (m.map Gr.Op.av) (by omega) hz q1 q2
        rw [Int.ofNat_zero] at h1
        rw [List.drop_zero, List.drop_zero] at h2
        refine (show _ from ?_)
        cases r with
        | x0 =>
          have hne : ¬ l[i].i = m[i].i := by simpa using h2
          exact ⟨.x0, (bindR_eq h1).trans rfl, by simp [hne]⟩
        | x1 =>
          have heq : l[i].i = m[i].i := by simpa using h2
          obtain ⟨r, h3, h4⟩ := ih f fuel (i + 1) l m a0 a2 (by omega) hl (by omega) h59 hin
          refine ⟨r, (bindR_eq h1).trans ?_, by rw [h4]; simp [c1, c2, c3, c4, heq]⟩
          simp only
          rw [add1 (by omega)]; exact h3
      · rw [ifB_t (by simp [stdOps]; omega)]
        exact ⟨.x0, rfl, by simp; intro _ _ _ _ h; exact absurd (by rw [h]) hz⟩
    · rw [ifB_t (by simp [stdOps]; grind)]
      exact ⟨.x0, rfl, by simp; grind⟩
/-- The document's Same. -/
theorem f39_is {n n' : Int} {l m : List Gr.Op} {fuel : Nat} (hf : l.length < fuel) (h59 : l.length < 2 ^ 59) (hin : ∀ o ∈ l, o.i.length < fuel ∧ o.i.length < 2 ^ 59) : ∃ b, f39 stdOps fuel n (l.map Gr.Op.av) n' (m.map Gr.Op.av) = some (.v0 b) ∧ (b = true ↔ n = n' ∧ l = m) := by
  unfold f39
  by_cases hn : n = n'
  · rw [ifB_f (by simp [stdOps, hn]), len_av, len_av]
    by_cases hl : l.length = m.length
    · rw [ifB_f (by simp [stdOps, hl])]
      obtain ⟨r, h1, h2⟩ := f39_l0_is l.length fuel fuel 0 l m n n' (by omega) hl hf h59 hin
      rw [Int.ofNat_zero] at h1
      rw [bindR_eq h1]
      cases r with
      | x0 => exact ⟨false, rfl, by simp at h2; simp [h2]⟩
      | x1 => exact ⟨true, rfl, by simp at h2; simp [h2, hn]⟩
    · rw [ifB_t (by simp [stdOps]; omega)]
      exact ⟨false, rfl, by simp; intro _ h; exact hl (by rw [h])⟩
  · rw [ifB_t (by simp [stdOps, hn])]
    exact ⟨false, rfl, by simp [hn]⟩
end Go.Proofs.Ytilffanmaicakaa.A

/- The number with which bytes begin: the program's answer and the document's. -/
namespace Go.Proofs.Ytilffanmaicakaa.A
open Go Go.Pt Go.Gr

def unzz (u : Nat) : Int := if u % 2 = 0 then ((u / 2 : Nat) : Int) else -((u / 2 : Nat) : Int) - 1
/-- i bytes are read, they say u. -/
def scan : Nat → Nat → List Nat → Int × Int × Int
  | _, _, [] => (0, 0, 10)
  | i, u, b :: r => if (i = 0 ∧ b = 128) ∨ 144115188075855872 ≤ u then (0, 0, 11) else if b < 128 then (unzz (u * 128 + b % 128), (i : Int) + 1, 0) else scan (i + 1) (u * 128 + b % 128) r
theorem and1 {u : Nat} (h : u < 18446744073709551616) : Pt.bits .and .u64 (u : Int) 1 = ((u % 2 : Nat) : Int) := by
  unfold Pt.bits
  have h1 : (BitVec.ofInt IntKind.u64.bits (u : Int) &&& BitVec.ofInt IntKind.u64.bits 1).toNat = u % 2 := by
    show (BitVec.ofInt 64 (u : Int) &&& BitVec.ofInt 64 1).toNat = _
    rw [BitVec.toNat_and, BitVec.toNat_ofInt, show (BitVec.ofInt 64 1).toNat = 1 from rfl, Nat.and_one_is_mod]
    omega
  simp only [h1]
  rw [wr_u64 (by omega) (by omega)]
theorem or7 {u r : Nat} (h : u < 144115188075855872) (hr : r < 128) : Pt.bits .or .u64 ((u * 128 : Nat) : Int) (r : Int) = ((u * 128 + r : Nat) : Int) := by
  unfold Pt.bits
  have h1 : (BitVec.ofInt IntKind.u64.bits ((u * 128 : Nat) : Int) ||| BitVec.ofInt IntKind.u64.bits (r : Int)).toNat = u * 128 + r := by
    show (BitVec.ofInt 64 ((u * 128 : Nat) : Int) ||| BitVec.ofInt 64 (r : Int)).toNat = _
    have e1 : (BitVec.ofInt 64 ((u * 128 : Nat) : Int)).toNat = u <<< 7 := by rw [BitVec.toNat_ofInt, Nat.shiftLeft_eq]; omega
    have e2 : (BitVec.ofInt 64 (r : Int)).toNat = r := by rw [BitVec.toNat_ofInt]; omega
    rw [BitVec.toNat_or, e1, e2, ← Nat.shiftLeft_add_eq_or_of_lt (by omega : r < 2 ^ 7), Nat.shiftLeft_eq]
  simp only [h1]
  rw [wr_u64 (by omega) (by omega)]
theorem xori0 {x : Nat} (h : x < 9223372036854775808) : Pt.bits .xor .i64 (x : Int) 0 = (x : Int) := by
  unfold Pt.bits
  have h1 : (BitVec.ofInt IntKind.i64.bits (x : Int) ^^^ BitVec.ofInt IntKind.i64.bits 0).toNat = x := by
    show (BitVec.ofInt 64 (x : Int) ^^^ BitVec.ofInt 64 0).toNat = x
    have : BitVec.ofInt 64 0 = 0#64 := rfl
    rw [this, BitVec.xor_zero, BitVec.toNat_ofInt]
    omega
  simp only [h1]
  rw [wr_i64 (by omega) (by omega)]
theorem xori1 {x : Nat} (h : x < 9223372036854775808) : Pt.bits .xor .i64 (x : Int) (-1) = -(x : Int) - 1 := by
  unfold Pt.bits
  have h1 : (BitVec.ofInt IntKind.i64.bits (x : Int) ^^^ BitVec.ofInt IntKind.i64.bits (-1)).toNat = 18446744073709551615 - x := by
    show (BitVec.ofInt 64 (x : Int) ^^^ BitVec.ofInt 64 (-1)).toNat = _
    have : BitVec.ofInt 64 (-1) = BitVec.allOnes 64 := by decide
    rw [this, BitVec.xor_allOnes, BitVec.toNat_not, BitVec.toNat_ofInt]
    omega
  simp only [h1]
  unfold IntKind.wrap
  simp [IntKind.bits, IntKind.signed]
  omega
theorem shr1 {u : Nat} : stdOps.sh .shr .u64 (u : Int) 1 = ((u / 2 : Nat) : Int) := by
  simp only [stdOps, IntKind.bits]
  have e1 : (2 : Int) ^ (min (Int.toNat 1) 64) = 2 := by decide
  rw [e1, Int.fdiv_eq_ediv_of_nonneg _ (by decide)]; omega
theorem shl7 {u : Nat} (h : u < 144115188075855872) : stdOps.sh .shl .u64 (u : Int) 7 = ((u * 128 : Nat) : Int) := by
  simp only [stdOps, IntKind.bits]
  have e1 : (2 : Int) ^ (min (Int.toNat 7) 64) = 128 := by decide
  rw [e1, wr_u64 (by omega) (by omega)]; omega
theorem f124_is {u : Nat} (h : u < 18446744073709551616) (fuel : Nat) : f124 stdOps fuel (u : Int) = some (.v0 (unzz u)) := by
  unfold f124
  rw [req_eq _ (by simp [stdOps])]
  have e1 : stdOps.ar .and .u64 (u : Int) 1 = ((u % 2 : Nat) : Int) := and1 h
  have e2 : stdOps.wrap .i64 (stdOps.sh .shr .u64 (u : Int) 1) = ((u / 2 : Nat) : Int) := by rw [shr1]; simp only [stdOps]; rw [wr_i64 (by omega) (by omega)]
  have e3 : stdOps.ar .xor .i64 ((u / 2 : Nat) : Int) (stdOps.neg .i64 (stdOps.wrap .i64 0)) = ((u / 2 : Nat) : Int) := xori0 (by omega)
  have e4 : stdOps.ar .xor .i64 ((u / 2 : Nat) : Int) (stdOps.neg .i64 (stdOps.wrap .i64 1)) = -((u / 2 : Nat) : Int) - 1 := xori1 (by omega)
  rw [e1, e2, e3, e4]
  unfold bit2 unzz
  by_cases hb : u % 2 = 0
  · rw [if_pos (by omega), if_pos hb]
  · rw [if_neg (by omega), if_pos (by omega), if_neg hb]
theorem f126_is {u : Nat} (h : u < 18446744073709551616) (fuel : Nat) : f126 stdOps fuel (u : Int) = some (.v0 (unzz u)) := by
  unfold f126
  rw [req_eq _ (by simp [stdOps])]
  have e1 : stdOps.ar .rem .u64 (u : Int) 2 = ((u % 2 : Nat) : Int) := by simp only [stdOps]; rw [Int.tmod_eq_emod_of_nonneg (by omega)]; omega
  have e2 : stdOps.wrap .i64 (stdOps.ar .quo .u64 (u : Int) 2) = ((u / 2 : Nat) : Int) := by
    simp only [stdOps]
    rw [Int.tdiv_eq_ediv_of_nonneg (by omega), wr_u64 (by omega) (by omega), wr_i64 (by omega) (by omega)]; omega
  rw [e1, e2]
  unfold unzz
  by_cases hb : u % 2 = 0
  · rw [ifB_t (by simp [stdOps, hb]), req_eq _ (by simp [stdOps]), if_pos hb]
  · rw [ifB_f (by simp [stdOps]; omega), req_eq _ (by simp [stdOps]), if_neg hb]
    simp only [stdOps]
    rw [wr_i64 (n := 0 - ((u / 2 : Nat) : Int)) (by omega) (by omega), wr_i64 (by omega) (by omega)]
    congr 2; omega
theorem get_byt {bs : List Nat} {i b : Nat} (h : bs[i]? = some b) : stdOps.get (bs.map byt) (i : Int) = some (.int .u8 (b : Int)) := by
  simp [stdOps, h, byt]
theorem f110_l0_is : ∀ (d f fuel i u : Nat) (bs : List Nat), i + d = bs.length → d < f → u < 18446744073709551616 → (∀ b ∈ bs, b < 256) → bs.length < 2 ^ 59 →
    f110_l0 stdOps fuel (bs.map byt) f (u : Int) (i : Int) = some (.x0 (scan i u (bs.drop i)).1 (scan i u (bs.drop i)).2.1 (scan i u (bs.drop i)).2.2) := by
  intro d
  induction d with
  | zero =>
    intro f fuel i u bs hi' hf hu hb hl
    obtain ⟨f, rfl⟩ : ∃ g, f = g + 1 := ⟨f - 1, by omega⟩
    rw [f110_l0, ifB_t (by simp [stdOps]; omega), List.drop_of_length_le (by omega)]
    rfl
  | succ d ih =>
    intro f fuel i u bs hi' hf hu hb hl
    obtain ⟨f, rfl⟩ : ∃ g, f = g + 1 := ⟨f - 1, by omega⟩
    have hlt : i < bs.length := by omega
    have h256 := hb _ (List.getElem_mem hlt)
    have hg := get_byt (List.getElem?_eq_getElem hlt)
    have hin : stdOps.inb (i : Int) (stdOps.len (bs.map byt)) := inb_av hlt
    have e1 : stdOps.wrap .u64 (stdOps.ar .and .u8 (bs[i] : Int) 127) = ((bs[i] % 128 : Nat) : Int) := by
      have : stdOps.ar .and .u8 (bs[i] : Int) 127 = ((bs[i] % 128 : Nat) : Int) := and127 h256
      rw [this]; simp only [stdOps]; rw [wr_u64 (by omega) (by omega)]
    have hs := List.drop_eq_getElem_cons hlt
    rw [f110_l0, ifB_f (by simp [stdOps]; omega), hs]
    have step : ∀ (x y : Option F110L0), u < 144115188075855872 → x = y → x = y := fun _ _ _ h => h
    by_cases h0 : i = 0
    · subst h0
      rw [ifB_t (by simp [stdOps]), req_eq _ hin, getA_eq hg]
      simp only [sh5]
      by_cases hc : bs[0] = 128 ∨ 144115188075855872 ≤ u
      · rw [ifB_t (by simp [stdOps]; omega)]
        simp only [scan]
        rw [if_pos (hc.imp (fun h => ⟨trivial, h⟩) id)]
      · rw [ifB_f (by simp [stdOps]; grind), req_eq _ (by simp [stdOps]), req_eq _ hin, getA_eq hg]
        simp only
        rw [req_eq _ hin, getA_eq hg]
        simp only
        have e2 : stdOps.ar .or .u64 (stdOps.sh .shl .u64 (u : Int) 7) ((bs[0] % 128 : Nat) : Int) = ((u * 128 + bs[0] % 128 : Nat) : Int) := by rw [shl7 (by omega)]; exact or7 (by omega) (by omega)
        rw [e1, e2]
        simp only [scan]
        rw [if_neg (by grind)]
        by_cases hlast : bs[0] < 128
        · rw [ifB_t (by simp [stdOps]; omega), bindR_eq (f124_is (by omega) fuel), if_pos hlast, add1 (by omega)]
          simp
        · rw [ifB_f (by simp [stdOps]; omega), if_neg hlast, add1 (by omega)]
          exact ih f fuel (0 + 1) (u * 128 + bs[0] % 128) bs (by omega) (by omega) (by omega) hb hl
    · rw [ifB_f (by simp [stdOps]; omega)]
      by_cases hc : 144115188075855872 ≤ u
      · rw [ifB_t (by simp [stdOps]; omega)]
        simp only [scan]
        rw [if_pos (by omega)]
      · rw [ifB_f (by simp [stdOps]; omega), req_eq _ (by simp [stdOps]), req_eq _ hin, getA_eq hg]
        simp only [sh5]
        rw [req_eq _ hin, getA_eq hg]
        simp only
        have e2 : stdOps.ar .or .u64 (stdOps.sh .shl .u64 (u : Int) 7) ((bs[i] % 128 : Nat) : Int) = ((u * 128 + bs[i] % 128 : Nat) : Int) := by rw [shl7 (by omega)]; exact or7 (by omega) (by omega)
        rw [e1, e2]
        simp only [scan]
        rw [if_neg (by omega)]
        by_cases hlast : bs[i] < 128
        · rw [ifB_t (by simp [stdOps]; omega), bindR_eq (f124_is (by omega) fuel), if_pos hlast, add1 (by omega)]
          simp
        · rw [ifB_f (by simp [stdOps]; omega), if_neg hlast, add1 (by omega)]
          exact ih f fuel (i + 1) (u * 128 + bs[i] % 128) bs (by omega) (by omega) (by omega) hb hl
theorem f113_l0_is : ∀ (d f fuel i u : Nat) (bs : List Nat), i + d = bs.length → d < f → u < 18446744073709551616 → (∀ b ∈ bs, b < 256) → bs.length < 2 ^ 59 →
    ∃ r, f113_l0 stdOps fuel (bs.map byt) f (u : Int) (i : Int) = some r ∧ (r = .x0 (scan i u (bs.drop i)).1 (scan i u (bs.drop i)).2.1 (scan i u (bs.drop i)).2.2 ∨ (r = .x1 ∧ scan i u (bs.drop i) = (0, 0, 10))) := by
  intro d
  induction d with
  | zero =>
    intro f fuel i u bs hi' hf hu hb hl
    obtain ⟨f, rfl⟩ : ∃ g, f = g + 1 := ⟨f - 1, by omega⟩
    rw [f113_l0, ifB_f (lss_f (by omega)), List.drop_of_length_le (by omega)]
    exact ⟨.x1, rfl, .inr ⟨rfl, rfl⟩⟩
  | succ d ih =>
    intro f fuel i u bs hi' hf hu hb hl
    obtain ⟨f, rfl⟩ : ∃ g, f = g + 1 := ⟨f - 1, by omega⟩
    have hlt : i < bs.length := by omega
    have h256 := hb _ (List.getElem_mem hlt)
    have hg := get_byt (List.getElem?_eq_getElem hlt)
    have hin : stdOps.inb (i : Int) (stdOps.len (bs.map byt)) := inb_av hlt
    have e1 : stdOps.wrap .u64 (stdOps.ar .rem .u8 (bs[i] : Int) 128) = ((bs[i] % 128 : Nat) : Int) := by
      simp only [stdOps]; rw [Int.tmod_eq_emod_of_nonneg (by omega), wr_u64 (by omega) (by omega)]; omega
    have hs := List.drop_eq_getElem_cons hlt
    rw [f113_l0, ifB_t (lss_t hlt), hs]
    have step : ∀ (x y : Option F110L0), u < 144115188075855872 → x = y → x = y := fun _ _ _ h => h
    by_cases h0 : i = 0
    · subst h0
      rw [ifB_t (by simp [stdOps]), req_eq _ hin, getA_eq hg]
      simp only [sh5]
      by_cases hc : bs[0] = 128 ∨ 144115188075855872 ≤ u
      · rw [ifB_t (by simp [stdOps]; omega)]
        simp only [scan]
        rw [if_pos (hc.imp (fun h => ⟨trivial, h⟩) id)]
        exact ⟨_, rfl, .inl rfl⟩
      · rw [ifB_f (by simp [stdOps]; grind), req_eq _ hin, getA_eq hg]
        simp only
        rw [req_eq _ (by simp [stdOps]), req_eq _ hin, getA_eq hg]
        simp only
        have e2 : stdOps.ar .add .u64 (stdOps.ar .mul .u64 (u : Int) 128) ((bs[0] % 128 : Nat) : Int) = ((u * 128 + bs[0] % 128 : Nat) : Int) := by simp only [stdOps]; rw [wr_u64 (n := (u : Int) * 128) (by omega) (by omega), wr_u64 (by omega) (by omega)]; omega
        rw [e1, e2]
        simp only [scan]
        rw [if_neg (by grind)]
        by_cases hlast : bs[0] < 128
        · rw [ifB_t (by simp [stdOps]; omega), bindR_eq (f126_is (by omega) fuel), if_pos hlast, add1 (by omega)]
          exact ⟨_, rfl, .inl (by simp)⟩
        · rw [ifB_f (by simp [stdOps]; omega), if_neg hlast, add1 (by omega)]
          exact ih f fuel (0 + 1) (u * 128 + bs[0] % 128) bs (by omega) (by omega) (by omega) hb hl
    · rw [ifB_f (by simp [stdOps]; omega)]
      by_cases hc : 144115188075855872 ≤ u
      · rw [ifB_t (by simp [stdOps]; omega)]
        simp only [scan]
        rw [if_pos (by omega)]
        exact ⟨_, rfl, .inl rfl⟩
      · rw [ifB_f (by simp [stdOps]; omega), req_eq _ hin, getA_eq hg]
        simp only [sh5]
        rw [req_eq _ (by simp [stdOps]), req_eq _ hin, getA_eq hg]
        simp only
        have e2 : stdOps.ar .add .u64 (stdOps.ar .mul .u64 (u : Int) 128) ((bs[i] % 128 : Nat) : Int) = ((u * 128 + bs[i] % 128 : Nat) : Int) := by simp only [stdOps]; rw [wr_u64 (n := (u : Int) * 128) (by omega) (by omega), wr_u64 (by omega) (by omega)]; omega
        rw [e1, e2]
        simp only [scan]
        rw [if_neg (by omega)]
        by_cases hlast : bs[i] < 128
        · rw [ifB_t (by simp [stdOps]; omega), bindR_eq (f126_is (by omega) fuel), if_pos hlast, add1 (by omega)]
          exact ⟨_, rfl, .inl (by simp)⟩
        · rw [ifB_f (by simp [stdOps]; omega), if_neg hlast, add1 (by omega)]
          exact ih f fuel (i + 1) (u * 128 + bs[i] % 128) bs (by omega) (by omega) (by omega) hb hl
/-- The program's First. -/
theorem f110_is {bs : List Nat} {fuel : Nat} (hb : ∀ b ∈ bs, b < 256) (hf : bs.length < fuel) (hl : bs.length < 2 ^ 59) : f110 stdOps fuel (bs.map byt) = some (.v0 (scan 0 0 bs).1 (scan 0 0 bs).2.1 (scan 0 0 bs).2.2) := by
  unfold f110
  have h := f110_l0_is bs.length fuel fuel 0 0 bs (by omega) hf (by decide) hb hl
  rw [Int.ofNat_zero, List.drop_zero] at h
  rw [bindR_eq h]
/-- The document's First. -/
theorem f113_is {bs : List Nat} {fuel : Nat} (hb : ∀ b ∈ bs, b < 256) (hf : bs.length < fuel) (hl : bs.length < 2 ^ 59) : f113 stdOps fuel (bs.map byt) = some (.v0 (scan 0 0 bs).1 (scan 0 0 bs).2.1 (scan 0 0 bs).2.2) := by
  unfold f113
  obtain ⟨r, h, hr⟩ := f113_l0_is bs.length fuel fuel 0 0 bs (by omega) hf (by decide) hb hl
  rw [Int.ofNat_zero] at h
  rw [List.drop_zero] at hr
  rw [bindR_eq h]
  rcases hr with rfl | ⟨rfl, hr⟩
  · rfl
  · rw [hr]
end Go.Proofs.Ytilffanmaicakaa.A

/- What both unpackers answer. -/
namespace Go.Proofs.Ytilffanmaicakaa.A
open Go Go.Pt Go.Gr

theorem scan_len : ∀ (bs : List Nat) (i u : Nat), (scan i u bs).2.2 = 0 → (i : Int) + 1 ≤ (scan i u bs).2.1 ∧ (scan i u bs).2.1 ≤ i + bs.length := by
  intro bs
  induction bs with
  | nil => intro i u h; simp [scan] at h
  | cons b r ih =>
    intro i u h
    unfold scan at h ⊢
    by_cases h1 : (i = 0 ∧ b = 128) ∨ 144115188075855872 ≤ u
    · rw [if_pos h1] at h; simp at h
    · rw [if_neg h1] at h ⊢
      by_cases h2 : b < 128
      · rw [if_pos h2] at h ⊢; simp only [List.length_cons]; constructor <;> omega
      · rw [if_neg h2] at h ⊢
        have := ih _ _ h
        simp only [List.length_cons]; push_cast at this ⊢; constructor <;> omega
/-- Why a number at the front of bs is not taken (0: it is). -/
def why (lo hi : Int) (bs : List Nat) : Int := if (scan 0 0 bs).2.2 = 0 ∧ ((scan 0 0 bs).1 < lo ∨ hi < (scan 0 0 bs).1) then 11 else (scan 0 0 bs).2.2
/-- One number of bs: it, what remains, the error. -/
def nxt (keep : Bool) (lo hi : Int) (bs : List Nat) (e : Int) : Int × List Nat × Int :=
  if e ≠ 0 then (0, bs, e) else if why lo hi bs ≠ 0 then (0, if keep then bs else [], why lo hi bs) else ((scan 0 0 bs).1, bs.drop (scan 0 0 bs).2.1.toNat, 0)
theorem drop_byt {bs : List Nat} {n : Int} : stdOps.drop (bs.map byt) n = (bs.drop n.toNat).map byt := by
  simp [stdOps, List.map_drop]
theorem f114_is {bs : List Nat} {e : Int} (he : e ≠ 0) (fuel : Nat) : f114 stdOps fuel e (bs.map byt) 0 = some (.v0 [] e) := by
  unfold f114
  rw [ifB_t (by simp [stdOps]), ifB_t (by simp [stdOps, he])]
/-- The document's. -/
theorem f88_is {bs : List Nat} {fuel : Nat} {lo hi e : Int} (hb : ∀ b ∈ bs, b < 256) (hf : bs.length < fuel) (hl : bs.length < 2 ^ 59) : f88 stdOps fuel lo hi (bs.map byt) e = some (.v0 (nxt false lo hi bs e).1 ((nxt false lo hi bs e).2.1.map byt) (nxt false lo hi bs e).2.2) := by
  unfold f88 nxt
  by_cases he : e = 0
  · subst he
    rw [ifB_f (by simp [stdOps]), bindR_eq (f113_is hb hf hl), if_neg (by simp)]
    dsimp only
    unfold why
    have hlen := scan_len bs 0 0
    generalize scan 0 0 bs = q at hlen ⊢
    obtain ⟨v, n, x⟩ := q
    dsimp only at hlen ⊢
    by_cases hx : x = 0
    · subst hx
      have hlen := hlen rfl
      by_cases hr : v < lo ∨ hi < v
      · have hw : (if (0 : Int) = 0 ∧ (v < lo ∨ hi < v) then (11 : Int) else 0) = 11 := if_pos ⟨rfl, hr⟩
        rw [ifB_t (by simp [stdOps]; omega), ifB_t (by simp [stdOps]), bindR_eq (f114_is (by decide) _), hw]
        simp
      · have hw : (if (0 : Int) = 0 ∧ (v < lo ∨ hi < v) then (11 : Int) else 0) = 0 := if_neg (by simp [hr])
        rw [ifB_f (by simp [stdOps]; omega), ifB_f (by simp [stdOps]), hw, if_neg (by simp), req_eq _ (by simp [stdOps]; omega), req_eq _ (by simp [stdOps]; omega), drop_byt]
    · have hw : (if x = 0 ∧ (v < lo ∨ hi < v) then (11 : Int) else x) = x := if_neg (by simp [hx])
      rw [ifB_f (by simp [stdOps, hx]), ifB_t (by simp [stdOps, hx]), bindR_eq (f114_is hx _), hw, if_pos hx]
      simp
  · rw [ifB_t (by simp [stdOps, he]), if_pos he]
theorem f87_is {bs : List Nat} {fuel : Nat} {e : Int} (hb : ∀ b ∈ bs, b < 256) (hf : bs.length < fuel) (hl : bs.length < 2 ^ 59) : f87 stdOps fuel (bs.map byt) e = some (.v0 (nxt false (-9223372036854775808) 9223372036854775807 bs e).1 ((nxt false (-9223372036854775808) 9223372036854775807 bs e).2.1.map byt) (nxt false (-9223372036854775808) 9223372036854775807 bs e).2.2) := by
  unfold f87
  rw [bindR_eq (f88_is hb hf hl)]
theorem f80_is {bs : List AV} {e : Int} {fuel : Nat} : f80 stdOps fuel bs e true = some (.v0 e bs e true) := by
  unfold f80
  rw [ifB_f rfl, ifB_f (by simp [stdOps])]
theorem f109_is {bs : List AV} {e : Int} {fuel : Nat} : f109 stdOps fuel bs e true = some (.v0 (decide (e ≠ 0)) bs e true) := by
  unfold f109
  rw [bindR_eq f80_is]
  by_cases he : e = 0 <;> simp [stdOps, he]
theorem f111_is {bs : List AV} {e : Int} {fuel : Nat} : f111 stdOps fuel e bs 0 true = some (.v0 bs e true) := by
  unfold f111
  rw [bindR_eq f109_is]
  dsimp only
  rw [ifB_t (by simp [stdOps])]
/-- The program's. -/
theorem f79_is {bs : List Nat} {fuel : Nat} {lo hi e : Int} (hb : ∀ b ∈ bs, b < 256) (hf : bs.length < fuel) (hl : bs.length < 2 ^ 59) : f79 stdOps fuel lo hi (bs.map byt) e true = some (.v0 (nxt true lo hi bs e).1 ((nxt true lo hi bs e).2.1.map byt) (nxt true lo hi bs e).2.2 true) := by
  unfold f79 nxt
  rw [bindR_eq f109_is]
  dsimp only
  by_cases he : e = 0
  · subst he
    rw [ifB_f (by simp), bindR_eq (f110_is hb hf hl), if_neg (by simp)]
    dsimp only
    unfold why
    have hlen := scan_len bs 0 0
    generalize scan 0 0 bs = q at hlen ⊢
    obtain ⟨v, n, x⟩ := q
    dsimp only at hlen ⊢
    by_cases hx : x = 0
    · subst hx
      have hlen := hlen rfl
      by_cases hr : v < lo ∨ hi < v
      · have hw : (if (0 : Int) = 0 ∧ (v < lo ∨ hi < v) then (11 : Int) else 0) = 11 := if_pos ⟨rfl, hr⟩
        rw [ifB_t (by simp [stdOps]; omega), ifB_t (by simp [stdOps]), bindR_eq f111_is, hw]
        simp
      · have hw : (if (0 : Int) = 0 ∧ (v < lo ∨ hi < v) then (11 : Int) else 0) = 0 := if_neg (by simp [hr])
        rw [ifB_f (by simp [stdOps]; omega), ifB_f (by simp [stdOps]), hw, if_neg (by simp), req_eq _ (by simp [stdOps]; omega), req_eq _ (by simp [stdOps]; omega), drop_byt]
    · have hw : (if x = 0 ∧ (v < lo ∨ hi < v) then (11 : Int) else x) = x := if_neg (by simp [hx])
      rw [ifB_f (by simp [stdOps, hx]), ifB_t (by simp [stdOps, hx]), bindR_eq f111_is, hw, if_pos hx]
      simp
  · rw [ifB_t (by simp [he]), if_pos he]
theorem f78_is {bs : List Nat} {fuel : Nat} {e : Int} (hb : ∀ b ∈ bs, b < 256) (hf : bs.length < fuel) (hl : bs.length < 2 ^ 59) : f78 stdOps fuel (bs.map byt) e true = some (.v0 (nxt true (-9223372036854775808) 9223372036854775807 bs e).1 ((nxt true (-9223372036854775808) 9223372036854775807 bs e).2.1.map byt) (nxt true (-9223372036854775808) 9223372036854775807 bs e).2.2 true) := by
  unfold f78
  rw [bindR_eq (f79_is hb hf hl)]
end Go.Proofs.Ytilffanmaicakaa.A

/- Parse, the inner loops: the edges. -/
namespace Go.Proofs.Ytilffanmaicakaa.A
open Go Go.Pt Go.Gr

def BsOk (fuel : Nat) (bs : List Nat) : Prop := (∀ b ∈ bs, b < 256) ∧ bs.length < fuel ∧ bs.length < 2 ^ 59
abbrev num (keep : Bool) (bs : List Nat) (e : Int) : Int × List Nat × Int := nxt keep (-9223372036854775808) 9223372036854775807 bs e
theorem nxt_sub (keep : Bool) (lo hi : Int) (bs : List Nat) (e : Int) : (nxt keep lo hi bs e).2.1.Sublist bs := by
  unfold nxt
  split
  · exact List.Sublist.refl _
  · split
    · cases keep
      · exact List.nil_sublist _
      · exact List.Sublist.refl _
    · exact List.drop_sublist _ _
theorem BsOk.nxt {fuel : Nat} {bs : List Nat} (h : BsOk fuel bs) (keep : Bool) (lo hi e : Int) : BsOk fuel (nxt keep lo hi bs e).2.1 :=
  have hs := nxt_sub keep lo hi bs e
  ⟨fun b hb => h.1 b (hs.subset hb), Nat.lt_of_le_of_lt hs.length_le h.2.1, Nat.lt_of_le_of_lt hs.length_le h.2.2⟩
/-- The edges of one operator. -/
def edgs (keep : Bool) : Nat → List Nat → Int → List Ed → List Nat × Int × List Ed
  | 0, bs, e, acc => (bs, e, acc)
  | k + 1, bs, e, acc => if e ≠ 0 then (bs, e, acc) else
    edgs keep k (num keep (num keep bs e).2.1 (num keep bs e).2.2).2.1 (num keep (num keep bs e).2.1 (num keep bs e).2.2).2.2 (acc ++ [⟨(num keep bs e).1, (num keep (num keep bs e).2.1 (num keep bs e).2.2).1⟩])
theorem edgs_err {keep : Bool} {k : Nat} {bs : List Nat} {e : Int} {acc : List Ed} (he : e ≠ 0) : edgs keep k bs e acc = (bs, e, acc) := by
  cases k with
  | zero => rfl
  | succ k => rw [edgs, if_pos he]
theorem BsOk.edgs {fuel : Nat} : ∀ (k : Nat) {bs : List Nat} (_ : BsOk fuel bs) (keep : Bool) (e : Int) (acc : List Ed), BsOk fuel (edgs keep k bs e acc).1 ∧ (edgs keep k bs e acc).2.2.length ≤ acc.length + k := by
  intro k
  induction k with
  | zero => intro bs h keep e acc; exact ⟨h, by simp [A.edgs]⟩
  | succ k ih =>
    intro bs h keep e acc
    rw [A.edgs]
    split
    · exact ⟨h, by simp⟩
    · have := ih ((h.nxt keep (-9223372036854775808) 9223372036854775807 e).nxt keep (-9223372036854775808) 9223372036854775807 (num keep bs e).2.2) keep (num keep (num keep bs e).2.1 (num keep bs e).2.2).2.2 (acc ++ [⟨(num keep bs e).1, (num keep (num keep bs e).2.1 (num keep bs e).2.2).1⟩])
      refine ⟨this.1, Nat.le_trans this.2 ?_⟩
      simp only [List.length_append, List.length_singleton]
      omega
theorem f43_l1_is : ∀ (d f fuel i w cnt : Nat) (bs : List Nat) (e : Int) (acc : List Ed) (a b c : Int) (w97 : List AV) (w93 : Nat) (g h j k : Int), i + d = cnt → cnt ≤ 1024 → acc.length ≤ i → d < f → BsOk fuel bs →
    ∃ w', f43_l1 stdOps fuel (cnt : Int) a b c w97 w93 g h j k f w (i : Int) (bs.map byt) e (acc.map Ed.av) = some (.x0 ((edgs false d bs e acc).1.map byt) (edgs false d bs e acc).2.1 ((edgs false d bs e acc).2.2.map Ed.av) w') := by
  intro d
  induction d with
  | zero =>
    intro f fuel i w cnt bs e acc a b c w97 w93 g h j k hi' hc ha hf hb
    obtain ⟨f, rfl⟩ : ∃ g, f = g + 1 := ⟨f - 1, by omega⟩
    exact ⟨w, by rw [f43_l1, ifB_f (by simp [stdOps]; omega)]; rfl⟩
  | succ d ih =>
    intro f fuel i w cnt bs e acc a b c w97 w93 g h j k hi' hc ha hf hb
    obtain ⟨f, rfl⟩ : ∃ g, f = g + 1 := ⟨f - 1, by omega⟩
    rw [f43_l1, ifB_t (by simp [stdOps]; omega), edgs]
    by_cases he : e = 0
    · have hb1 := hb.nxt false (-9223372036854775808) 9223372036854775807 e
      rw [ifB_t (by simp [stdOps, he]), bindR_eq (f87_is hb.1 hb.2.1 hb.2.2)]
      dsimp only
      rw [bindR_eq (f87_is hb1.1 hb1.2.1 hb1.2.2), if_neg (by simp [he])]
      dsimp only
      rw [req_eq _ (by simp [stdOps]; omega), add1 (by omega)]
      have happ : ∀ (x y : Int), stdOps.apnd (acc.map Ed.av) [AV.agg [.int .i64 x, .int .i64 y]] = (acc ++ [(⟨x, y⟩ : Ed)]).map Ed.av := by intro x y; simp [stdOps, Ed.av]
      rw [happ]
      exact ih f fuel (i + 1) _ cnt _ _ _ a b c w97 w93 g h j k (by omega) hc (by simp only [List.length_append, List.length_singleton]; omega) (by omega) (hb1.nxt false _ _ _)
    · exact ⟨w, by rw [ifB_f (by simp [stdOps, he]), if_pos he]⟩
def L1Is (x : Option F38L1) (bs : List Nat) (e : Int) (acc : List Ed) : Prop := ∃ w, x = some (.x0 (bs.map byt) e true (acc.map Ed.av) w) ∨ x = some (.x1 (bs.map byt) e true (acc.map Ed.av) w)
theorem f38_l1_is : ∀ (d f fuel i w cnt : Nat) (bs : List Nat) (e : Int) (acc : List Ed) (a b c : Int) (w97 : List AV) (w93 : Nat) (g h j k : Int), i + d = cnt → cnt ≤ 1024 → acc.length ≤ i → d < f → BsOk fuel bs → (e = 0 ∨ d = 0) →
    L1Is (f38_l1 stdOps fuel (cnt : Int) a b c w97 w93 g h j k f w (i : Int) (bs.map byt) e true (acc.map Ed.av)) (edgs true d bs e acc).1 (edgs true d bs e acc).2.1 (edgs true d bs e acc).2.2 := by
  intro d
  induction d with
  | zero =>
    intro f fuel i w cnt bs e acc a b c w97 w93 g h j k hi' hc ha hf hb _
    obtain ⟨f, rfl⟩ : ∃ g, f = g + 1 := ⟨f - 1, by omega⟩
    exact ⟨w, Or.inr (by rw [f38_l1, ifB_f (by simp [stdOps]; omega)]; rfl)⟩
  | succ d ih =>
    intro f fuel i w cnt bs e acc a b c w97 w93 g h j k hi' hc ha hf hb hd
    obtain ⟨f, rfl⟩ : ∃ g, f = g + 1 := ⟨f - 1, by omega⟩
    have he : e = 0 := by omega
    have hb1 := hb.nxt true (-9223372036854775808) 9223372036854775807 e
    have hb2 := hb1.nxt true (-9223372036854775808) 9223372036854775807 (num true bs e).2.2
    rw [f38_l1, ifB_t (by simp [stdOps]; omega), edgs, bindR_eq (f78_is hb.1 hb.2.1 hb.2.2)]
    dsimp only
    rw [bindR_eq (f78_is hb1.1 hb1.2.1 hb1.2.2), if_neg (by simp [he])]
    dsimp only
    rw [req_eq _ (by simp [stdOps]; omega), bindR_eq f80_is]
    dsimp only
    have happ : ∀ (x y : Int), stdOps.apnd (acc.map Ed.av) [AV.agg [.int .i64 x, .int .i64 y]] = (acc ++ [(⟨x, y⟩ : Ed)]).map Ed.av := by intro x y; simp [stdOps, Ed.av]
    rw [add1 (by omega), happ]
    by_cases he2 : (num true (num true bs e).2.1 (num true bs e).2.2).2.2 = 0
    · rw [ifB_f (by simp [stdOps, he2])]
      exact ih f fuel (i + 1) _ cnt _ _ _ a b c w97 w93 g h j k (by omega) hc (by simp only [List.length_append, List.length_singleton]; omega) (by omega) hb2 (Or.inl he2)
    · rw [ifB_t (by simp [stdOps, he2]), edgs_err he2]
      exact ⟨_, Or.inl rfl⟩
/-- What both hold between them: the same error, and without one the same bytes. -/
theorem nxt_rel {lo hi : Int} {bs bs' : List Nat} {e : Int} (h : e = 0 → bs = bs') : (nxt true lo hi bs e).1 = (nxt false lo hi bs' e).1 ∧ (nxt true lo hi bs e).2.2 = (nxt false lo hi bs' e).2.2 ∧ ((nxt true lo hi bs e).2.2 = 0 → (nxt true lo hi bs e).2.1 = (nxt false lo hi bs' e).2.1) := by
  unfold nxt
  by_cases he : e = 0
  · rw [h he]
    subst he
    by_cases hw : why lo hi bs' = 0 <;> simp [hw]
  · simp [he]
theorem edgs_rel : ∀ (k : Nat) {bs bs' : List Nat} {e : Int} {acc : List Ed}, (e = 0 → bs = bs') → (edgs true k bs e acc).2 = (edgs false k bs' e acc).2 ∧ ((edgs true k bs e acc).2.1 = 0 → (edgs true k bs e acc).1 = (edgs false k bs' e acc).1) := by
  intro k
  induction k with
  | zero => intro bs bs' e acc h; exact ⟨rfl, h⟩
  | succ k ih =>
    intro bs bs' e acc h
    rw [edgs, edgs]
    by_cases he : e = 0
    · rw [if_neg (by simp [he]), if_neg (by simp [he])]
      have h1 := nxt_rel (lo := -9223372036854775808) (hi := 9223372036854775807) h
      have h2 := nxt_rel (lo := -9223372036854775808) (hi := 9223372036854775807) h1.2.2
      unfold num
      rw [← h1.1, ← h1.2.1, ← h2.1, ← h2.2.1]
      exact ih h2.2.2
    · rw [if_pos he, if_pos he]
      exact ⟨rfl, h⟩
end Go.Proofs.Ytilffanmaicakaa.A

/- Parse, the outer loops: the operators. -/
namespace Go.Proofs.Ytilffanmaicakaa.A
open Go Go.Pt Go.Gr

theorem nxt_rng (keep : Bool) (bs : List Nat) (e : Int) : 0 ≤ (nxt keep 0 1024 bs e).1 ∧ (nxt keep 0 1024 bs e).1 ≤ 1024 ∧ ((nxt keep 0 1024 bs e).2.2 = 0 ∨ (nxt keep 0 1024 bs e).1 = 0) := by
  unfold nxt
  by_cases he : e = 0
  · rw [if_neg (by simp [he])]
    by_cases hw : why 0 1024 bs = 0
    · rw [if_neg (by simp [hw])]
      dsimp only
      unfold why at hw
      by_cases hr : (scan 0 0 bs).2.2 = 0 ∧ ((scan 0 0 bs).1 < 0 ∨ 1024 < (scan 0 0 bs).1)
      · rw [if_pos hr] at hw; omega
      · rw [if_neg hr] at hw; omega
    · rw [if_pos hw]; dsimp only; omega
  · rw [if_pos he]; dsimp only; omega
/-- One operator. -/
noncomputable def opn (keep : Bool) (bs : List Nat) (e : Int) : Gr.Op × List Nat × Int :=
  let a := num keep bs e
  let b := num keep a.2.1 a.2.2
  let c := num keep b.2.1 b.2.2
  let d := num keep c.2.1 c.2.2
  let n := nxt keep 0 1024 d.2.1 d.2.2
  let x := edgs keep n.1.toNat n.2.1 n.2.2 []
  (⟨a.1, b.1, c.1, d.1, x.2.2⟩, x.1, x.2.1)
noncomputable def opss (keep : Bool) : Nat → List Nat → Int → List Gr.Op → List Nat × Int × List Gr.Op
  | 0, bs, e, acc => (bs, e, acc)
  | k + 1, bs, e, acc => if e ≠ 0 then (bs, e, acc) else opss keep k (opn keep bs e).2.1 (opn keep bs e).2.2 (acc ++ [(opn keep bs e).1])
theorem opss_err {keep : Bool} {k : Nat} {bs : List Nat} {e : Int} {acc : List Gr.Op} (he : e ≠ 0) : opss keep k bs e acc = (bs, e, acc) := by
  cases k with
  | zero => rfl
  | succ k => rw [opss, if_pos he]
theorem BsOk.opn {fuel : Nat} {bs : List Nat} (h : BsOk fuel bs) (keep : Bool) (e : Int) : BsOk fuel (opn keep bs e).2.1 :=
  (BsOk.edgs _ (((((h.nxt keep _ _ _).nxt keep _ _ _).nxt keep _ _ _).nxt keep _ _ _).nxt keep _ _ _) keep _ _).1
theorem op_app {acc : List Gr.Op} {k p f a : Int} {es : List Ed} : stdOps.apnd (acc.map Gr.Op.av) [AV.agg [.int .i64 k, .int .i64 p, .int .i64 f, .int .i64 a, .sl 2 (es.map Ed.av) .no]] = (acc ++ [(⟨k, p, f, a, es⟩ : Gr.Op)]).map Gr.Op.av := by simp [stdOps, Gr.Op.av]
theorem f43_l0_is : ∀ (d f fuel i w cnt : Nat) (bs : List Nat) (e : Int) (acc : List Gr.Op) (a : Int), i + d = cnt → cnt ≤ 1024 → acc.length ≤ i → d < f → 1024 < fuel → BsOk fuel bs →
    ∃ w', f43_l0 stdOps fuel (cnt : Int) a f w (i : Int) (bs.map byt) e (acc.map Gr.Op.av) = some (.x0 ((opss false d bs e acc).1.map byt) (opss false d bs e acc).2.1 ((opss false d bs e acc).2.2.map Gr.Op.av) w') := by
  intro d
  induction d with
  | zero =>
    intro f fuel i w cnt bs e acc a hi' hc ha hf h1024 hb
    obtain ⟨f, rfl⟩ : ∃ g, f = g + 1 := ⟨f - 1, by omega⟩
    exact ⟨w, by rw [f43_l0, ifB_f (by simp [stdOps]; omega)]; rfl⟩
  | succ d ih =>
    intro f fuel i w cnt bs e acc a hi' hc ha hf h1024 hb
    obtain ⟨f, rfl⟩ : ∃ g, f = g + 1 := ⟨f - 1, by omega⟩
    rw [f43_l0, ifB_t (by simp [stdOps]; omega), opss]
    by_cases he : e = 0
    · have hb1 := hb.nxt false (-9223372036854775808) 9223372036854775807 e
      have hb2 := hb1.nxt false (-9223372036854775808) 9223372036854775807 (num false bs e).2.2
      have hbn := hb.opn false e
      rw [if_neg (by simp [he])]
      unfold opn at hbn ⊢
      dsimp only at hbn ⊢
      generalize hA : num false bs e = A at *
      have hA1 : BsOk fuel A.2.1 := by rw [← hA]; exact hb.nxt _ _ _ _
      generalize hB : num false A.2.1 A.2.2 = B at *
      have hB1 : BsOk fuel B.2.1 := by rw [← hB]; exact hA1.nxt _ _ _ _
      generalize hC : num false B.2.1 B.2.2 = C at *
      have hC1 : BsOk fuel C.2.1 := by rw [← hC]; exact hB1.nxt _ _ _ _
      generalize hD : num false C.2.1 C.2.2 = D at *
      have hD1 : BsOk fuel D.2.1 := by rw [← hD]; exact hC1.nxt _ _ _ _
      have hr := nxt_rng false D.2.1 D.2.2
      generalize hN : nxt false 0 1024 D.2.1 D.2.2 = N at *
      have hN1 : BsOk fuel N.2.1 := by rw [← hN]; exact hD1.nxt _ _ _ _
      rw [ifB_t (by simp [stdOps, he]), bindR_eq (f87_is hb.1 hb.2.1 hb.2.2)]
      unfold num at hA hB hC hD
      simp only [hA]
      rw [bindR_eq (f87_is hA1.1 hA1.2.1 hA1.2.2)]
      simp only [hB]
      rw [bindR_eq (f87_is hB1.1 hB1.2.1 hB1.2.2)]
      simp only [hC]
      rw [bindR_eq (f87_is hC1.1 hC1.2.1 hC1.2.2)]
      simp only [hD]
      rw [bindR_eq (f88_is hD1.1 hD1.2.1 hD1.2.2)]
      simp only [hN]
      obtain ⟨m, hm⟩ : ∃ m : Nat, N.1 = m := ⟨N.1.toNat, by omega⟩
      obtain ⟨w', hx⟩ := f43_l1_is m fuel fuel 0 0 m N.2.1 N.2.2 [] (cnt : Int) (i : Int) a (acc.map Gr.Op.av) w A.1 B.1 C.1 D.1 (by omega) (by omega) (by simp) (by omega) hN1
      rw [Int.ofNat_zero, List.map_nil] at hx
      rw [hm, Int.toNat_natCast, bindR_eq hx]
      dsimp only
      rw [req_eq _ (by simp [stdOps]; omega), add1 (by omega), op_app]
      rw [hm, Int.toNat_natCast] at hbn
      exact ih f fuel (i + 1) _ cnt _ _ _ a (by omega) hc (by simp only [List.length_append, List.length_singleton]; omega) (by omega) h1024 hbn
    · exact ⟨w, by rw [ifB_f (by simp [stdOps, he]), if_pos he]⟩
def L0Is (x : Option F38L0) (bs : List Nat) (e : Int) (acc : List Gr.Op) : Prop := ∃ w, x = some (.x0 (bs.map byt) e true (acc.map Gr.Op.av) w) ∨ x = some (.x1 (bs.map byt) e true (acc.map Gr.Op.av) w) ∨ x = some (.x2 (bs.map byt) e true (acc.map Gr.Op.av) w)
theorem f38_l0_is : ∀ (d f fuel i w cnt : Nat) (bs : List Nat) (e : Int) (acc : List Gr.Op) (a : Int), i + d = cnt → cnt ≤ 1024 → acc.length ≤ i → d < f → 1024 < fuel → BsOk fuel bs → (e = 0 ∨ d = 0) →
    L0Is (f38_l0 stdOps fuel (cnt : Int) a f w (i : Int) (bs.map byt) e true (acc.map Gr.Op.av)) (opss true d bs e acc).1 (opss true d bs e acc).2.1 (opss true d bs e acc).2.2 := by
  intro d
  induction d with
  | zero =>
    intro f fuel i w cnt bs e acc a hi' hc ha hf h1024 hb _
    obtain ⟨f, rfl⟩ : ∃ g, f = g + 1 := ⟨f - 1, by omega⟩
    exact ⟨w, Or.inr (Or.inr (by rw [f38_l0, ifB_f (by simp [stdOps]; omega)]; rfl))⟩
  | succ d ih =>
    intro f fuel i w cnt bs e acc a hi' hc ha hf h1024 hb hd
    obtain ⟨f, rfl⟩ : ∃ g, f = g + 1 := ⟨f - 1, by omega⟩
    have he : e = 0 := by omega
    rw [f38_l0, ifB_t (by simp [stdOps]; omega), opss]
    have hbn := hb.opn true e
    rw [if_neg (by simp [he])]
    unfold opn at hbn ⊢
    dsimp only at hbn ⊢
    generalize hA : num true bs e = A at *
    have hA1 : BsOk fuel A.2.1 := by rw [← hA]; exact hb.nxt _ _ _ _
    generalize hB : num true A.2.1 A.2.2 = B at *
    have hB1 : BsOk fuel B.2.1 := by rw [← hB]; exact hA1.nxt _ _ _ _
    generalize hC : num true B.2.1 B.2.2 = C at *
    have hC1 : BsOk fuel C.2.1 := by rw [← hC]; exact hB1.nxt _ _ _ _
    generalize hD : num true C.2.1 C.2.2 = D at *
    have hD1 : BsOk fuel D.2.1 := by rw [← hD]; exact hC1.nxt _ _ _ _
    have hr := nxt_rng true D.2.1 D.2.2
    generalize hN : nxt true 0 1024 D.2.1 D.2.2 = N at *
    have hN1 : BsOk fuel N.2.1 := by rw [← hN]; exact hD1.nxt _ _ _ _
    rw [bindR_eq (f78_is hb.1 hb.2.1 hb.2.2)]
    unfold num at hA hB hC hD
    simp only [hA]
    rw [bindR_eq (f78_is hA1.1 hA1.2.1 hA1.2.2)]
    simp only [hB]
    rw [bindR_eq (f78_is hB1.1 hB1.2.1 hB1.2.2)]
    simp only [hC]
    rw [bindR_eq (f78_is hC1.1 hC1.2.1 hC1.2.2)]
    simp only [hD]
    rw [bindR_eq (f79_is hD1.1 hD1.2.1 hD1.2.2)]
    simp only [hN]
    obtain ⟨m, hm⟩ : ∃ m : Nat, N.1 = m := ⟨N.1.toNat, by omega⟩
    obtain ⟨w', hx⟩ := f38_l1_is m fuel fuel 0 0 m N.2.1 N.2.2 [] (cnt : Int) (i : Int) a (acc.map Gr.Op.av) w A.1 B.1 C.1 D.1 (by omega) (by omega) (by simp) (by omega) hN1 (by omega)
    rw [Int.ofNat_zero, List.map_nil] at hx
    rw [hm, Int.toNat_natCast] at hbn ⊢
    generalize edgs true m N.2.1 N.2.2 [] = X at hx hbn ⊢
    rcases hx with hx | hx
    all_goals
      rw [bindR_eq hx]
      dsimp only
      rw [req_eq _ (by simp [stdOps]; omega), bindR_eq f80_is]
      dsimp only
      rw [add1 (by omega), op_app]
      by_cases he2 : X.2.1 = 0
      · rw [ifB_f (by simp [stdOps, he2])]
        exact ih f fuel (i + 1) _ cnt _ _ _ a (by omega) hc (by simp only [List.length_append, List.length_singleton]; omega) (by omega) h1024 hbn (Or.inl he2)
      · rw [ifB_t (by simp [stdOps, he2]), opss_err he2]
        first
        | exact ⟨_, Or.inl rfl⟩
        | exact ⟨_, Or.inr (Or.inl rfl)⟩
theorem opn_rel {bs bs' : List Nat} {e : Int} (h : e = 0 → bs = bs') : (opn true bs e).1 = (opn false bs' e).1 ∧ (opn true bs e).2.2 = (opn false bs' e).2.2 ∧ ((opn true bs e).2.2 = 0 → (opn true bs e).2.1 = (opn false bs' e).2.1) := by
  have h1 := nxt_rel (lo := -9223372036854775808) (hi := 9223372036854775807) h
  have h2 := nxt_rel (lo := -9223372036854775808) (hi := 9223372036854775807) h1.2.2
  have h3 := nxt_rel (lo := -9223372036854775808) (hi := 9223372036854775807) h2.2.2
  have h4 := nxt_rel (lo := -9223372036854775808) (hi := 9223372036854775807) h3.2.2
  have h5 := nxt_rel (lo := 0) (hi := 1024) h4.2.2
  have h6 := edgs_rel (nxt true 0 1024 (num true (num true (num true (num true bs e).2.1 (num true bs e).2.2).2.1 (num true (num true bs e).2.1 (num true bs e).2.2).2.2).2.1 (num true (num true (num true bs e).2.1 (num true bs e).2.2).2.1 (num true (num true bs e).2.1 (num true bs e).2.2).2.2).2.2).2.1 (num true (num true (num true (num true bs e).2.1 (num true bs e).2.2).2.1 (num true (num true bs e).2.1 (num true bs e).2.2).2.2).2.1 (num true (num true (num true bs e).2.1 (num true bs e).2.2).2.1 (num true (num true bs e).2.1 (num true bs e).2.2).2.2).2.2).2.2).1.toNat (acc := []) h5.2.2
  unfold opn
  dsimp only
  unfold num at h6 ⊢
  rw [← h1.2.1, ← h2.2.1, ← h3.2.1, ← h4.2.1, ← h5.2.1, ← h5.1, ← h4.1, ← h3.1, ← h2.1, ← h1.1, ← h6.1]
  exact ⟨rfl, rfl, h6.2⟩
theorem opss_rel : ∀ (k : Nat) {bs bs' : List Nat} {e : Int} {acc : List Gr.Op}, (e = 0 → bs = bs') → (opss true k bs e acc).2 = (opss false k bs' e acc).2 ∧ ((opss true k bs e acc).2.1 = 0 → (opss true k bs e acc).1 = (opss false k bs' e acc).1) := by
  intro k
  induction k with
  | zero => intro bs bs' e acc h; exact ⟨rfl, h⟩
  | succ k ih =>
    intro bs bs' e acc h
    rw [opss, opss]
    by_cases he : e = 0
    · rw [if_neg (by simp [he]), if_neg (by simp [he])]
      have h1 := opn_rel h
      rw [← h1.1, ← h1.2.1]
      exact ih h1.2.2
    · rw [if_pos he, if_pos he]
      exact ⟨rfl, h⟩
end Go.Proofs.Ytilffanmaicakaa.A

/- Parse: the program's answer and the document's are one. -/
namespace Go.Proofs.Ytilffanmaicakaa.A
open Go Go.Pt Go.Gr

def fin (e : Int) (bs : List Nat) : Int := if e = 0 then (if bs = [] then 0 else 12) else e
theorem f81_is {bs : List Nat} {e : Int} {fuel : Nat} : f81 stdOps fuel (bs.map byt) e true = some (.v0 (fin e bs) (bs.map byt) e true) := by
  unfold f81 fin
  rw [bindR_eq f80_is]
  dsimp only
  by_cases he : e = 0
  · rw [ifB_f (by simp [stdOps, he]), if_pos he]
    by_cases hb : bs = []
    · rw [ifB_f (by simp [stdOps, hb]), if_pos hb]
    · have : 0 < bs.length := List.length_pos_iff.2 hb
      rw [ifB_t (by simp [stdOps]; omega), if_neg hb]
  · rw [ifB_t (by simp [stdOps, he]), if_neg he]
theorem f89_is {bs : List Nat} {e : Int} {fuel : Nat} : f89 stdOps fuel (bs.map byt) e = some (.v0 (fin e bs) (bs.map byt) e) := by
  unfold f89 fin
  by_cases he : e = 0
  · rw [ifB_t (by simp [stdOps, he]), if_pos he]
    by_cases hb : bs = []
    · rw [ifB_f (by simp [stdOps, hb]), if_pos hb, he]
    · have : 0 < bs.length := List.length_pos_iff.2 hb
      rw [ifB_t (by simp [stdOps]; omega), if_neg hb]
  · rw [ifB_f (by simp [stdOps, he]), if_neg he]
theorem isNil_nil {α : Type} {n : Bool} {k : Bool → Option α} (h : k true = k false) : isNil [] n k = k true := by
  unfold isNil
  rw [if_pos rfl, if_pos h]
theorem isNil_more {α : Type} {l : List AV} {n : Bool} {k : Bool → Option α} (h : l ≠ []) : isNil l n k = k n := by
  unfold isNil
  rw [if_neg h]
theorem f108_is {bs : List Nat} {fuel : Nat} (h : bs.length < 2 ^ 47) : f108 stdOps fuel (bs.map byt) = some (.v0 (bs.map byt)) := by
  unfold f108
  have hr : stdOps.room [] (bs.map byt) 1 := by simp [stdOps]; omega
  by_cases hb : bs = []
  · subst hb
    rw [List.map_nil] at hr ⊢
    rw [isNil_nil]
    · rfl
    · show (some (F108R.v0 [])) = req (stdOps.room [] [] 1) (some (F108R.v0 (stdOps.apnd [] [])))
      rw [req_eq _ hr]
      rfl
  · rw [isNil_more (by simp [hb])]
    show req (stdOps.room [] (bs.map byt) 1) (some (F108R.v0 (stdOps.apnd [] (bs.map byt)))) = _
    rw [req_eq _ hr]
    simp [stdOps]
theorem f77_is {bs : List Nat} {fuel : Nat} (h : bs.length < 2 ^ 47) : f77 stdOps fuel (bs.map byt) = some (.v0 (bs.map byt) 0 true) := by
  unfold f77
  rw [bindR_eq (f108_is h)]
/-- What is read: N, the operators, the error. -/
noncomputable def red (keep : Bool) (bs : List Nat) : Int × List Gr.Op × Int :=
  let n := num keep bs 0
  let c := nxt keep 0 1024 n.2.1 n.2.2
  let x := opss keep c.1.toNat c.2.1 c.2.2 []
  (n.1, x.2.2, fin x.2.1 x.1)
theorem red_rel (bs : List Nat) : red true bs = red false bs := by
  have h1 := nxt_rel (lo := -9223372036854775808) (hi := 9223372036854775807) (bs := bs) (e := 0) (fun _ => rfl)
  have h2 := nxt_rel (lo := 0) (hi := 1024) h1.2.2
  have h3 := opss_rel (nxt true 0 1024 (num true bs 0).2.1 (num true bs 0).2.2).1.toNat (acc := []) h2.2.2
  unfold red
  dsimp only
  unfold num at h3 ⊢
  rw [← h1.2.1, ← h2.2.1, ← h2.1, ← h1.1, ← h3.1]
  congr 2
  unfold fin
  by_cases he : (opss true (nxt true 0 1024 (nxt true (-9223372036854775808) 9223372036854775807 bs 0).2.1 (nxt true (-9223372036854775808) 9223372036854775807 bs 0).2.2).1.toNat (nxt true 0 1024 (nxt true (-9223372036854775808) 9223372036854775807 bs 0).2.1 (nxt true (-9223372036854775808) 9223372036854775807 bs 0).2.2).2.1 (nxt true 0 1024 (nxt true (-9223372036854775808) 9223372036854775807 bs 0).2.1 (nxt true (-9223372036854775808) 9223372036854775807 bs 0).2.2).2.2 []).2.1 = 0
  · rw [h3.2 he]
  · rw [if_neg he, if_neg he]
theorem opss_len (keep : Bool) : ∀ (k : Nat) (bs : List Nat) (e : Int) (acc : List Gr.Op), (opss keep k bs e acc).2.2.length ≤ acc.length + k := by
  intro k
  induction k with
  | zero => intro bs e acc; simp [opss]
  | succ k ih =>
    intro bs e acc
    rw [opss]
    split
    · simp
    · refine Nat.le_trans (ih _ _ _) ?_
      simp only [List.length_append, List.length_singleton]
      omega
theorem red_len (keep : Bool) (bs : List Nat) : (red keep bs).2.1.length ≤ 1024 := by
  unfold red
  dsimp only
  have h := opss_len keep (nxt keep 0 1024 (num keep bs 0).2.1 (num keep bs 0).2.2).1.toNat (nxt keep 0 1024 (num keep bs 0).2.1 (num keep bs 0).2.2).2.1 (nxt keep 0 1024 (num keep bs 0).2.1 (num keep bs 0).2.2).2.2 []
  have h2 := nxt_rng keep (num keep bs 0).2.1 (num keep bs 0).2.2
  simp only [List.length_nil] at h
  omega
/-- What Parse answers, where Check answers x. -/
noncomputable def parsed (q : Int × List Gr.Op × Int) (x : Int) : Int × List Gr.Op × Int := if q.2.2 ≠ 0 then (0, [], q.2.2) else if x ≠ 0 then (0, [], x) else (q.1, q.2.1, 0)
theorem f43_is {bs : List Nat} {fuel : Nat} {r x : Int} (hb : BsOk fuel bs) (hf : 1026 ≤ fuel) (hc : Chk ⟨(red false bs).1, (red false bs).2.1⟩ r x) : f43 stdOps fuel (bs.map byt) = some (.v0 (parsed (red false bs) x).1 ((parsed (red false bs) x).2.1.map Gr.Op.av) (parsed (red false bs) x).2.2) := by
  unfold f43
  have hlen := red_len false bs
  have h27 : f27 stdOps fuel (red false bs).1 ((red false bs).2.1.map Gr.Op.av) = some (.v0 r x) := by unfold f27; rw [chkF_eq (by omega) hc]; rfl
  have h86 : f86 stdOps fuel (bs.map byt) = some (.v0 (bs.map byt) 0) := rfl
  rw [bindR_eq h86]
  dsimp only
  rw [bindR_eq (f87_is hb.1 hb.2.1 hb.2.2)]
  dsimp only
  have hA1 := hb.nxt false (-9223372036854775808) 9223372036854775807 0
  rw [bindR_eq (f88_is hA1.1 hA1.2.1 hA1.2.2)]
  dsimp only
  have hr := nxt_rng false (num false bs 0).2.1 (num false bs 0).2.2
  have hN1 := hA1.nxt false 0 1024 (num false bs 0).2.2
  have hq : red false bs = ((num false bs 0).1, (opss false (nxt false 0 1024 (num false bs 0).2.1 (num false bs 0).2.2).1.toNat (nxt false 0 1024 (num false bs 0).2.1 (num false bs 0).2.2).2.1 (nxt false 0 1024 (num false bs 0).2.1 (num false bs 0).2.2).2.2 []).2.2, fin (opss false (nxt false 0 1024 (num false bs 0).2.1 (num false bs 0).2.2).1.toNat (nxt false 0 1024 (num false bs 0).2.1 (num false bs 0).2.2).2.1 (nxt false 0 1024 (num false bs 0).2.1 (num false bs 0).2.2).2.2 []).2.1 (opss false (nxt false 0 1024 (num false bs 0).2.1 (num false bs 0).2.2).1.toNat (nxt false 0 1024 (num false bs 0).2.1 (num false bs 0).2.2).2.1 (nxt false 0 1024 (num false bs 0).2.1 (num false bs 0).2.2).2.2 []).1) := rfl
  generalize hn : num false bs 0 = A at *
  unfold num at hn
  rw [hn] at hN1 ⊢
  generalize hN : nxt false 0 1024 A.2.1 A.2.2 = N at *
  obtain ⟨m, hm⟩ : ∃ m : Nat, N.1 = m := ⟨N.1.toNat, by omega⟩
  obtain ⟨w', hx⟩ := f43_l0_is m fuel fuel 0 0 m N.2.1 N.2.2 [] A.1 (by omega) (by omega) (by simp) (by omega) (by omega) hN1
  rw [Int.ofNat_zero, List.map_nil] at hx
  rw [hm, Int.toNat_natCast] at hq
  rw [hm, bindR_eq hx]
  generalize opss false m N.2.1 N.2.2 [] = X at hq ⊢
  rw [hq] at h27 ⊢
  unfold parsed
  dsimp only at h27 ⊢
  rw [bindR_eq f89_is]
  dsimp only
  by_cases h0 : fin X.2.1 X.1 = 0
  · rw [ifB_f (by simp [stdOps, h0]), bindR_eq h27, if_neg (by simp [h0])]
    dsimp only
    by_cases hx0 : x = 0
    · rw [ifB_f (by simp [stdOps, hx0]), if_neg (by simp [hx0])]
    · rw [ifB_t (by simp [stdOps, hx0]), if_pos hx0]; rfl
  · rw [ifB_t (by simp [stdOps, h0]), if_pos h0]; rfl
theorem f38_is {bs : List Nat} {fuel : Nat} {r x : Int} (hb : BsOk fuel bs) (h47 : bs.length < 2 ^ 47) (hf : 1026 ≤ fuel) (hc : Chk ⟨(red true bs).1, (red true bs).2.1⟩ r x) : f38 stdOps fuel (bs.map byt) = some (.v0 (parsed (red true bs) x).1 ((parsed (red true bs) x).2.1.map Gr.Op.av) (parsed (red true bs) x).2.2) := by
  unfold f38
  have hlen := red_len true bs
  have h26 : f26 stdOps fuel (red true bs).1 ((red true bs).2.1.map Gr.Op.av) = some (.v0 r x) := by unfold f26; rw [chkF_eq (by omega) hc]; rfl
  rw [bindR_eq (f77_is h47)]
  dsimp only
  rw [bindR_eq (f78_is hb.1 hb.2.1 hb.2.2)]
  dsimp only
  have hA1 := hb.nxt true (-9223372036854775808) 9223372036854775807 0
  rw [bindR_eq (f79_is hA1.1 hA1.2.1 hA1.2.2)]
  dsimp only
  have hr := nxt_rng true (num true bs 0).2.1 (num true bs 0).2.2
  have hN1 := hA1.nxt true 0 1024 (num true bs 0).2.2
  have hq : red true bs = ((num true bs 0).1, (opss true (nxt true 0 1024 (num true bs 0).2.1 (num true bs 0).2.2).1.toNat (nxt true 0 1024 (num true bs 0).2.1 (num true bs 0).2.2).2.1 (nxt true 0 1024 (num true bs 0).2.1 (num true bs 0).2.2).2.2 []).2.2, fin (opss true (nxt true 0 1024 (num true bs 0).2.1 (num true bs 0).2.2).1.toNat (nxt true 0 1024 (num true bs 0).2.1 (num true bs 0).2.2).2.1 (nxt true 0 1024 (num true bs 0).2.1 (num true bs 0).2.2).2.2 []).2.1 (opss true (nxt true 0 1024 (num true bs 0).2.1 (num true bs 0).2.2).1.toNat (nxt true 0 1024 (num true bs 0).2.1 (num true bs 0).2.2).2.1 (nxt true 0 1024 (num true bs 0).2.1 (num true bs 0).2.2).2.2 []).1) := rfl
  generalize hn : num true bs 0 = A at *
  unfold num at hn
  rw [hn] at hN1 ⊢
  generalize hN : nxt true 0 1024 A.2.1 A.2.2 = N at *
  obtain ⟨m, hm⟩ : ∃ m : Nat, N.1 = m := ⟨N.1.toNat, by omega⟩
  obtain ⟨w', hx⟩ := f38_l0_is m fuel fuel 0 0 m N.2.1 N.2.2 [] A.1 (by omega) (by omega) (by simp) (by omega) (by omega) hN1 (by omega)
  rw [Int.ofNat_zero, List.map_nil] at hx
  rw [hm, Int.toNat_natCast] at hq
  rw [hm]
  generalize opss true m N.2.1 N.2.2 [] = X at hx hq ⊢
  rw [hq] at h26 ⊢
  unfold parsed
  dsimp only at h26 ⊢
  rcases hx with hx | hx | hx
  all_goals
    rw [bindR_eq hx]
    dsimp only
    rw [bindR_eq f81_is]
    dsimp only
    by_cases h0 : fin X.2.1 X.1 = 0
    · rw [ifB_f (by simp [stdOps, h0]), bindR_eq h26, if_neg (by simp [h0])]
      dsimp only
      by_cases hx0 : x = 0
      · rw [ifB_f (by simp [stdOps, hx0]), if_neg (by simp [hx0])]
      · rw [ifB_t (by simp [stdOps, hx0]), if_pos hx0]; rfl
    · rw [ifB_t (by simp [stdOps, h0]), if_pos h0]; rfl
end Go.Proofs.Ytilffanmaicakaa.A

/- bytes.Equal of the same bytes. -/
namespace Go.Proofs.Ytilffanmaicakaa.A
open Go Go.Pt Go.Gr

theorem f40_same {bs : List Nat} {fuel : Nat} (hb : ∀ b ∈ bs, b < 256) : f40 stdOps fuel (bs.map byt) (bs.map byt) = some (.v0 true) := by
  have hi : stdOps.isb (bs.map byt) := by
    intro x hx
    obtain ⟨b, hb1, rfl⟩ := List.mem_map.1 hx
    have := hb b hb1
    refine ⟨UInt8.ofNat b, ?_⟩
    unfold byt
    rw [UInt8.toNat_ofNat', Nat.mod_eq_of_lt this]
  unfold f40
  rw [req_eq _ hi, req_eq _ hi]
  have : ∀ x : ByteArray, (x == x) = true := fun x => by first | exact beq_self_eq_true x | (show (decide (x = x)) = true; exact decide_eq_true rfl) | (show (x.data == x.data) = true; simp)
  show some (F40R.v0 (stdOps.seq _ _)) = _
  exact congrArg (fun b => some (F40R.v0 b)) (this _)
end Go.Proofs.Ytilffanmaicakaa.A

/- A check of any graph tells something. -/
namespace Go.Proofs.Ytilffanmaicakaa.A
open Go Go.Pt Go.Gr

theorem least {P : Nat → Prop} : ∀ n, P n → ∃ m, m ≤ n ∧ (∀ j, j < m → ¬ P j) ∧ P m := by
  intro n
  induction n using Nat.strongRecOn with
  | _ n ih =>
    intro h
    by_cases hx : ∃ j, j < n ∧ P j
    · obtain ⟨j, hj, hp⟩ := hx
      obtain ⟨m, h1, h2⟩ := ih j hj hp
      exact ⟨m, by omega, h2⟩
    · exact ⟨n, Nat.le_refl _, fun j hj hp => hx ⟨j, hj, hp⟩, h⟩
theorem chk_ex (g : G) : ∃ r e, Chk g r e := by
  by_cases h0 : 1 ≤ g.n ∧ g.n ≤ 4
  case neg => exact ⟨_, _, Chk.arg (by omega)⟩
  by_cases h1 : g.o.length ≤ 24
  case neg => exact ⟨_, _, Chk.long h0 (by omega)⟩
  by_cases hf : ∃ j, j < g.o.length ∧ Gr.fault g j ≠ 0
  · obtain ⟨j, hj, hp⟩ := hf
    obtain ⟨m, hm, ha, hb⟩ := least (P := fun j => Gr.fault g j ≠ 0) j hp
    exact ⟨_, _, Chk.fault h0 h1 m (fun j hj => Classical.not_not.1 (ha j hj)) (by omega) hb⟩
  have hf' : ∀ j, j < g.o.length → Gr.fault g j = 0 := fun j hj => Classical.not_not.1 fun h => hf ⟨j, hj, h⟩
  by_cases hl : ∃ j, Gr.loose g j
  · obtain ⟨j, hj⟩ := hl
    obtain ⟨m, _, ha, hb⟩ := least (P := fun j => Gr.loose g j) j hj
    exact ⟨_, _, Chk.loose h0 h1 hf' m ha hb⟩
  have hl' : ∀ j, ¬ Gr.loose g j := fun j hj => hl ⟨j, hj⟩
  by_cases hs : ∃ p : Int, (0 ≤ p ∧ p < g.n) ∧ srcs g.o p ≠ 1
  · obtain ⟨p, hp, h⟩ := hs
    exact ⟨_, _, Chk.part h0 h1 hf' hl' p hp h⟩
  have hs' : ∀ p, 0 ≤ p → p < g.n → srcs g.o p = 1 := fun p h2 h3 => Classical.not_not.1 fun h => hs ⟨p, ⟨h2, h3⟩, h⟩
  by_cases hk : sinks g.o = 1
  · exact ⟨_, _, Chk.ok h0 h1 hf' hl' hs' hk⟩
  · exact ⟨_, _, Chk.sink h0 h1 hf' hl' hs' hk⟩
end Go.Proofs.Ytilffanmaicakaa.A

/- The law GraphBytes, in plain Lean: it answers true. -/
namespace Go.Proofs.Ytilffanmaicakaa.A
open Go Go.Pt Go.Gr

theorem gh_byte : ∀ (f u : Nat), ∀ b ∈ gh f u, b < 256 := by
  intro f
  induction f with
  | zero => intro u b hb; simp [gh] at hb
  | succ f ih =>
    intro u b hb
    rw [gh] at hb
    split at hb
    · simp at hb
    · rcases List.mem_append.1 hb with h | h
      · exact ih _ _ h
      · simp only [List.mem_singleton] at h; omega
theorem form_byte {u : Nat} : ∀ b ∈ form u, b < 256 := by
  intro b hb
  unfold form at hb
  rcases List.mem_append.1 hb with h | h
  · exact gh_byte _ _ _ h
  · simp only [List.mem_singleton] at h; omega
theorem encs_byte {ns : List Int} : ∀ b ∈ encs ns, b < 256 := by
  intro b hb
  unfold encs at hb
  obtain ⟨n, _, h⟩ := List.mem_flatMap.1 hb
  exact form_byte _ h
theorem gEnc_byte {n : Int} {l : List Gr.Op} : ∀ b ∈ gEnc n l, b < 256 := by
  intro b hb
  unfold gEnc at hb
  rcases List.mem_append.1 hb with h | h
  · exact encs_byte _ h
  · obtain ⟨o, _, h⟩ := List.mem_flatMap.1 h
    unfold opEnc at h
    rcases List.mem_append.1 h with h | h
    · exact encs_byte _ h
    · obtain ⟨e, _, h⟩ := List.mem_flatMap.1 h
      exact encs_byte _ h
theorem edgs_len (keep : Bool) : ∀ (k : Nat) (bs : List Nat) (e : Int) (acc : List Ed), (edgs keep k bs e acc).2.2.length ≤ acc.length + k := by
  intro k
  induction k with
  | zero => intro bs e acc; simp [edgs]
  | succ k ih =>
    intro bs e acc
    rw [edgs]
    split
    · simp
    · refine Nat.le_trans (ih _ _ _) ?_
      simp only [List.length_append, List.length_singleton]
      omega
theorem opn_len (keep : Bool) (bs : List Nat) (e : Int) : (opn keep bs e).1.i.length ≤ 1024 := by
  unfold opn
  dsimp only
  refine Nat.le_trans (edgs_len _ _ _ _ _) ?_
  have := nxt_rng keep (num keep (num keep (num keep (num keep bs e).2.1 (num keep bs e).2.2).2.1 (num keep (num keep bs e).2.1 (num keep bs e).2.2).2.2).2.1 (num keep (num keep (num keep bs e).2.1 (num keep bs e).2.2).2.1 (num keep (num keep bs e).2.1 (num keep bs e).2.2).2.2).2.2).2.1 (num keep (num keep (num keep (num keep bs e).2.1 (num keep bs e).2.2).2.1 (num keep (num keep bs e).2.1 (num keep bs e).2.2).2.2).2.1 (num keep (num keep (num keep bs e).2.1 (num keep bs e).2.2).2.1 (num keep (num keep bs e).2.1 (num keep bs e).2.2).2.2).2.2).2.2
  simp only [List.length_nil]
  omega
theorem opss_in (keep : Bool) : ∀ (k : Nat) (bs : List Nat) (e : Int) (acc : List Gr.Op), (∀ o ∈ acc, o.i.length ≤ 1024) → ∀ o ∈ (opss keep k bs e acc).2.2, o.i.length ≤ 1024 := by
  intro k
  induction k with
  | zero => intro bs e acc h; simpa [opss] using h
  | succ k ih =>
    intro bs e acc h
    rw [opss]
    split
    · exact h
    · refine ih _ _ _ fun o ho => ?_
      rcases List.mem_append.1 ho with ho | ho
      · exact h o ho
      · rw [List.mem_singleton.1 ho]; exact opn_len _ _ _
theorem red_in (keep : Bool) (bs : List Nat) : ∀ o ∈ (red keep bs).2.1, o.i.length ≤ 1024 := by
  unfold red
  dsimp only
  exact opss_in _ _ _ _ _ (by simp)
theorem parsed_len {q : Int × List Gr.Op × Int} {x : Int} (h : q.2.1.length ≤ 1024) : (parsed q x).2.1.length ≤ 1024 := by
  unfold parsed; split
  · simp
  · split <;> simp [h]
theorem parsed_in {q : Int × List Gr.Op × Int} {x : Int} (h : ∀ o ∈ q.2.1, o.i.length ≤ 1024) : ∀ o ∈ (parsed q x).2.1, o.i.length ≤ 1024 := by
  unfold parsed; split
  · simp
  · split
    · simp
    · exact h
theorem most {l : List Gr.Op} : ∃ M, ∀ o ∈ l, o.i.length ≤ M := by
  induction l with
  | nil => exact ⟨0, by simp⟩
  | cons x l ih =>
    obtain ⟨M, h⟩ := ih
    refine ⟨max M x.i.length, fun o ho => ?_⟩
    rcases List.mem_cons.1 ho with rfl | ho
    · exact Nat.le_max_right _ _
    · exact Nat.le_trans (h o ho) (Nat.le_max_left _ _)

theorem law_true {n n' : Int} {l l' : List Gr.Op} {bs : List Nat} (hl : (l.length : Int) * 56 ≤ 2 ^ 47) (hl' : (l'.length : Int) * 56 ≤ 2 ^ 47) (hn : In64 n) (hin : ∀ o ∈ l, OpIn o ∧ (o.i.length : Int) * 16 ≤ 2 ^ 47) (hb : ∀ b ∈ bs, b < 256) (hbl : bs.length < 2 ^ 47) :
    ∃ fuel, f10 stdOps fuel n (l.map Gr.Op.av) n' (l'.map Gr.Op.av) (bs.map byt) = some (.v0 true) := by
  obtain ⟨M, hM⟩ := most (l := l)
  refine ⟨2000 + l.length + M + bs.length, ?_⟩
  obtain ⟨fuel, hfuel⟩ : ∃ F, F = 2000 + l.length + M + bs.length := ⟨_, rfl⟩
  rw [← hfuel]
  obtain ⟨r, e, hc⟩ := chk_ex ⟨n, l⟩
  obtain ⟨r2, e2, hc2⟩ := chk_ex ⟨(red false bs).1, (red false bs).2.1⟩
  have hB : BsOk fuel bs := ⟨hb, by omega, by omega⟩
  have h37 := f37_is (by omega) hc hn (fun o ho => (hin o ho).1) (fuel := fuel) (by omega)
  have h42 := f42_is (by omega) hc hn (fun o ho => (hin o ho).1) (fuel := fuel) (by omega)
  have h43 := f43_is hB (by omega) hc2
  have h38 := f38_is (r := r2) (x := e2) hB (by omega) (by omega) (by rw [red_rel]; exact hc2)
  rw [red_rel] at h38
  have hby : ∀ b ∈ (if e = 0 then gEnc n l else []), b < 256 := by split; exact gEnc_byte; simp
  have hmap : (if e = 0 then (gEnc n l).map byt else []) = (if e = 0 then gEnc n l else []).map byt := by split <;> simp
  have h40 := f40_same (fuel := fuel) hby
  have hli : ∀ o ∈ l, o.i.length < fuel ∧ o.i.length < 2 ^ 59 := fun o ho => by
    have h1 := hM o ho
    have h2 := (hin o ho).2
    exact ⟨by omega, by omega⟩
  have hpl := parsed_len (x := e2) (red_len false bs)
  have hpi := parsed_in (x := e2) (red_in false bs)
  obtain ⟨b1, h39a, hb1⟩ := f39_is (n := (parsed (red false bs) e2).1) (n' := (parsed (red false bs) e2).1) (l := (parsed (red false bs) e2).2.1) (m := (parsed (red false bs) e2).2.1) (fuel := fuel) (by omega) (by omega) (fun o ho => by have := hpi o ho; omega)
  obtain rfl : b1 = true := hb1.2 ⟨rfl, rfl⟩
  obtain ⟨b2, h44, hb2⟩ := f44_is (n := n) (n' := n') (l := l) (m := l') (fuel := fuel) (by omega) (by omega) hli
  obtain ⟨b3, h39b, hb3⟩ := f39_is (n := n) (n' := n') (l := l) (m := l') (fuel := fuel) (by omega) (by omega) hli
  obtain rfl : b2 = b3 := by
    cases b2 <;> cases b3 <;> simp_all
  obtain ⟨b4, h44b, hb4⟩ := f44_is (n := n) (n' := n) (l := l) (m := l) (fuel := fuel) (by omega) (by omega) hli
  obtain rfl : b4 = true := hb4.2 ⟨rfl, rfl⟩
  obtain ⟨b5, h39c, hb5⟩ := f39_is (n := n) (n' := n) (l := l) (m := l) (fuel := fuel) (by omega) (by omega) hli
  obtain rfl : b5 = true := hb5.2 ⟨rfl, rfl⟩
  have h41 : f41 stdOps fuel n (l.map Gr.Op.av) = some (.v0 n (l.map Gr.Op.av)) := by
    unfold f41; exact req_eq _ ⟨l, rfl, hl, fun o ho => (hin o ho).2⟩
  have hee : stdOps.cmp .eql e e = true := by simp [stdOps]
  have hff : stdOps.cmp .eql (parsed (red false bs) e2).2.2 (parsed (red false bs) e2).2.2 = true := by simp [stdOps]
  have hss : stdOps.same b2 b2 = true := by simp [stdOps]
  have hp : ∀ x, stdOps.pick true x false = x := fun x => rfl
  unfold f10
  rw [hmap] at h37 h42
  rw [bindR_eq (show f25 stdOps fuel = some (.v0 true) from rfl)]
  dsimp only
  rw [ifB_f (by rfl), bindR_eq h37]
  dsimp only
  rw [bindR_eq h42]
  dsimp only
  rw [bindR_eq h38]
  dsimp only
  rw [bindR_eq h43]
  dsimp only
  rw [bindR_eq h40]
  dsimp only
  rw [hee, hp, ifB_t rfl, bindR_eq h39a]
  dsimp only
  rw [hp, hff, hp, ifB_t rfl, bindR_eq h44]
  dsimp only
  rw [ifB_t rfl, bindR_eq h39b]
  dsimp only
  rw [hss, hp, ifB_t rfl, bindR_eq h44b]
  dsimp only
  rw [hp, ifB_t rfl, bindR_eq h41]
  dsimp only
  rw [ifB_t rfl, bindR_eq h39c]
  dsimp only
  rw [hp]
end Go.Proofs.Ytilffanmaicakaa.A
