/- Stores: how the program's store holds them; its calls that change nothing. -/import Derived.Test.YtjdbmfipciadfaaSpA
import Derived.Test.YtjdbmfipciadfaaSyA
namespace Go.Proofs.Ytjdbmfipciadfaa.A
open Go Go.Pt
def pav (κ : ByteArray → Nat) (p : Pw) : AV := .agg [.fp 0 (κ p.n) 0, .int .i64 p.i, .sl 1 p.b .no]
def fav (b : List AV) : AV := .agg [.sl 1 b .no]
def eav (κ : ByteArray → Nat) (x : ByteArray) : AV × AV := (.str x, .fp 0 (κ x) 0)
structure Rs (fs : List (List AV)) (κ : ByteArray → Nat) (m : Mo) (lo n N : Int) (es : List (AV × AV)) (row : List AV) : Prop where
  lo0 : lo = 0
  len : n = m.P.length
  cap : n ≤ N
  row : ∃ rest, row = m.P.map (pav κ) ++ rest
  es : ∃ ns : List ByteArray, es = ns.map (eav κ) ∧ ns.Perm m.names
  inj : ∀ a ∈ m.names, ∀ b ∈ m.names, κ a = κ b → a = b
  get : ∀ x ∈ m.L, fs[κ x.1]? = some x.2
section
variable {κ : ByteArray → Nat}
theorem keq_str (a b : ByteArray) : keq (.str a) (.str b) = decide (a = b) := by
  show (a == b && true) = _
  rw [Bool.and_true]
  exact seq_is a b
theorem find_e {n : ByteArray} : ∀ {ns : List ByteArray}, stdOps.mfind (ns.map (eav κ)) (.str n) = if n ∈ ns then some (.fp 0 (κ n) 0) else none
  | [] => rfl
  | x :: ns => by
    show (if keq (.str n) (.str x) = true then some (.fp 0 (κ x) 0) else stdOps.mfind (ns.map (eav κ)) (.str n)) = _
    rw [keq_str, find_e]
    by_cases e : n = x
    · subst e; simp
    · simp [e]
theorem put_e {n : ByteArray} {k : Nat} : ∀ {ns : List ByteArray}, n ∉ ns → stdOps.mput (ns.map (eav κ)) (.str n) (.fp 0 k 0) = ns.map (eav κ) ++ [(.str n, .fp 0 k 0)]
  | [], _ => rfl
  | x :: ns, h => by
    show (if keq (.str n) (.str x) = true then _ else eav κ x :: stdOps.mput (ns.map (eav κ)) (.str n) (.fp 0 k 0)) = _
    rw [keq_str, decide_eq_false (fun e => h (by rw [e]; exact List.mem_cons_self)), if_neg (by simp), put_e fun hm => h (List.mem_cons_of_mem _ hm)]
    rfl
theorem putr_e {n : ByteArray} {k : Nat} : ∀ {ns : List ByteArray}, n ∈ ns → ns.Nodup → stdOps.mput (ns.map (eav κ)) (.str n) (.fp 0 k 0) = ns.map (eav fun x => if x = n then k else κ x)
  | x :: ns, h, hn => by
    rw [List.nodup_cons] at hn
    show (if keq (.str n) (.str x) = true then (AV.str n, AV.fp 0 k 0) :: ns.map (eav κ) else eav κ x :: stdOps.mput (ns.map (eav κ)) (.str n) (.fp 0 k 0)) = _
    rw [keq_str]
    by_cases e : n = x
    · subst e
      rw [decide_eq_true rfl, if_pos rfl, List.map_cons]
      congr 1
      · simp [eav]
      · refine List.map_congr_left fun y hy => ?_
        have : y ≠ n := fun e => hn.1 (e ▸ hy)
        simp [eav, this]
    · rw [decide_eq_false e, if_neg (by simp), putr_e (by simpa [e] using h) hn.2, List.map_cons]
      congr 1
      have : x ≠ n := fun e' => e e'.symm
      simp [eav, this]
theorem del_e {n : ByteArray} : ∀ {ns : List ByteArray}, stdOps.mdel (ns.map (eav κ)) (.str n) = (ns.erase n).map (eav κ)
  | [] => rfl
  | x :: ns => by
    show (if keq (.str n) (.str x) = true then ns.map (eav κ) else eav κ x :: stdOps.mdel (ns.map (eav κ)) (.str n)) = _
    rw [keq_str, List.erase_cons]
    by_cases e : n = x
    · subst e; simp
    · rw [decide_eq_false e, if_neg (by simp), del_e]
      have : (x == n) = false := by
        rw [Bool.eq_false_iff]
        intro h
        exact e (by simpa using h : x = n).symm
      rw [this]; rfl
theorem mok_e {ns : List ByteArray} : stdOps.mok false [.str] (ns.map (eav κ)) := by
  intro x hx
  obtain ⟨y, _, rfl⟩ := List.mem_map.1 hx
  rfl
theorem findE {α : Type} {n : ByteArray} {ns : List ByteArray} {k : Int → Option α} {z : Option α} :
    req (stdOps.mok false [.str] (ns.map (eav κ))) (findA (stdOps.mfind (ns.map (eav κ)) (.str n)) (fun e => sh142 e k) z) = if n ∈ ns then k (κ n) else z := by
  rw [req_eq _ mok_e, find_e]
  by_cases h : n ∈ ns
  · rw [if_pos h, if_pos h]; rfl
  · rw [if_neg h, if_neg h]; rfl
end
theorem f96_is {fuel : Nat} {A : List AV} {most lo n N : Int} {down : Bool} {es : List (AV × AV)} {row : List AV} : f96 stdOps fuel A most lo n N down es row = some (.v0 false) := rfl
def canI (m : Mo) : Int := if m.down then 32 else 0
theorem f97_is {fuel : Nat} {A : List AV} {most lo n N : Int} {down : Bool} {es : List (AV × AV)} {row : List AV} : f97 stdOps fuel A most lo n N down es row = some (.v0 (if down then 32 else 0)) := by
  unfold f97
  rw [bindR_eq f96_is]
  cases down <;> rfl
def findV (κ : ByteArray → Nat) (m : Mo) (name : ByteArray) : F92R := if m.down then .v0 32 else if name ∈ m.names then .v1 (κ name) else .v0 4
theorem f92_is {fuel : Nat} {fs : List (List AV)} {κ : ByteArray → Nat} {m : Mo} {lo n N : Int} {es : List (AV × AV)} {row : List AV} {A : List AV} {most : Int} {name : ByteArray} (h : Rs fs κ m lo n N es row) :
    f92 stdOps fuel name A most lo n N m.down es row = some (findV κ m name) := by
  obtain ⟨ns, rfl, hp⟩ := h.es
  unfold f92 findV
  rw [bindR_eq f97_is]
  cases m.down with
  | true => rfl
  | false =>
    show ifB (stdOps.bnot (stdOps.cmp .eql 0 0)) _ _ = _
    refine ifB_is_f rfl ?_
    rw [findE]
    have : name ∈ ns ↔ name ∈ m.names := hp.mem_iff
    by_cases hm : name ∈ m.names
    · rw [if_pos (this.2 hm), if_pos hm]; rfl
    · rw [if_neg (fun e => hm (this.1 e)), if_neg hm]; rfl
theorem f99_is {fuel : Nat} {b x : List AV} {i : Int} {A : List AV} (h0 : 0 ≤ i) (h1 : i ≤ b.length) (hb : b.length ≤ 2 ^ 30) (hx : x.length ≤ 2 ^ 30) : f99 stdOps fuel b i x A = some (.v0 (ov b i.toNat x)) := by
  unfold f99
  have ha : stdOps.ar .add .i64 i (stdOps.len x) = i + x.length := wr_i64 (by rw [len_is]; omega) (by rw [len_is]; omega)
  rw [ha]
  have hm0 : 0 ≤ stdOps.mn (stdOps.len b) (i + x.length) := by
    show 0 ≤ (if i + (x.length : Int) < (b.length : Int) then i + (x.length : Int) else (b.length : Int))
    split <;> omega
  have hm1 : stdOps.mn (stdOps.len b) (i + x.length) ≤ b.length := by
    show (if i + (x.length : Int) < (b.length : Int) then i + (x.length : Int) else (b.length : Int)) ≤ b.length
    split <;> omega
  have hd : stdOps.drop b (stdOps.mn (stdOps.len b) (i + x.length)) = b.drop (i.toNat + x.length) := by
    show b.drop (if i + (x.length : Int) < (b.length : Int) then i + (x.length : Int) else (b.length : Int)).toNat = _
    split
    · congr 1; omega
    · rw [List.drop_of_length_le (by omega), List.drop_of_length_le (by omega)]
  have hs : stdOps.sub b 0 i = b.take i.toNat := rfl
  refine req_is h0 <| req_is h1 <| req_is hm0 <| req_is hm1 ?_
  rw [hd, hs]
  have hj : f139 stdOps fuel [.sl 1 (b.take i.toNat) .no, .sl 1 x .no, .sl 1 (b.drop (i.toNat + x.length)) .no] = some (.v0 (ov b i.toNat x)) := by
    have := joinA_map [b.take i.toNat, x, b.drop (i.toNat + x.length)]
    unfold f139
    simp only [List.map_cons, List.map_nil, slV1] at this
    rw [this]
    have he : [b.take i.toNat, x, b.drop (i.toNat + x.length)].flatten = ov b i.toNat x := by simp [ov]
    simp only [he]
    rw [if_pos ⟨by rw [ov_length (by omega)]; omega, by simp⟩]
  exact bindR_is hj rfl
theorem f95_is {fuel : Nat} {l A : List AV} (hl : l.length ≤ 2 ^ 40) : f95 stdOps fuel l A = some (.v0 l) := by
  unfold f95
  refine isNil_same (fun e => by subst e; rfl) ?_ fun e => ?_
  · exact (req_eq _ (show (([] : List AV).length + l.length) * 1 ≤ 2 ^ 47 by simp; omega))
  · subst e
    exact (req_eq _ (show (([] : List AV).length + ([] : List AV).length) * 1 ≤ 2 ^ 47 by simp))
section
variable {fs : List (List AV)} {κ : ByteArray → Nat} {m : Mo} {lo n N : Int} {es : List (AV × AV)} {row : List AV}
theorem Rs.rowget (h : Rs fs κ m lo n N es row) {i : Nat} (hi : i < m.P.length) : stdOps.get row (stdOps.sum lo (i : Int)) = some (pav κ m.P[i]) ∧ stdOps.inb (stdOps.sum lo (i : Int)) (stdOps.len row) ∧ stdOps.inb (i : Int) n := by
  obtain ⟨rest, rfl⟩ := h.row
  have h0 := h.lo0
  subst h0
  refine ⟨?_, ?_, ?_⟩
  · show (m.P.map (pav κ) ++ rest)[((0 : Int) + i).toNat]? = _
    rw [show ((0 : Int) + i).toNat = i by omega, List.getElem?_append_left (by simpa using hi)]
    simp [hi]
  · show (0 : Int) ≤ 0 + i ∧ (0 : Int) + i < ((m.P.map (pav κ) ++ rest).length : Int)
    simp; omega
  · show (0 : Int) ≤ i ∧ (i : Int) < n
    have := h.len
    omega
theorem f93_l0_is (hI : Iv m) (h : Rs fs κ m lo n N es row) (hP : m.P.length < 2 ^ 42) {x : ByteArray × List AV} (hx : x ∈ m.L) {fuel : Nat} {A : List AV} {a5 a2 : Int} {a6 : Bool} {a7 : List (AV × AV)} :
    ∀ (rest pre : List Pw) (f : Nat) (w : List AV), m.P = pre ++ rest → rest.length < f → okW rest x.1 w → (seen rest x.1 w).length ≤ 2 ^ 22 →
      f93_1_l0 stdOps fuel n lo row (κ x.1) A a5 a2 a6 a7 f w pre.length = some (.x0 (seen rest x.1 w))
  | [], pre, f + 1, w, hp, hf, hok, hl => by
    have hn := h.len
    rw [hp, List.append_nil] at hn
    rw [f93_1_l0, hn, ifB_f (lss_f (by omega))]
    rfl
  | p :: rest, pre, f + 1, w, hp, hf, hok, hl => by
    have hi : pre.length < m.P.length := by rw [hp]; simp
    have hpi : m.P[pre.length] = p := by simp [hp]
    obtain ⟨g1, g2, g3⟩ := h.rowget hi
    rw [hpi] at g1
    have hn := h.len
    have ih := f93_l0_is hI h hP hx (fuel := fuel) (A := A) (a5 := a5) (a2 := a2) (a6 := a6) (a7 := a7) rest (pre ++ [p]) f (seen1 x.1 w p) (by simpa using hp) (by simp at hf; omega) hok.2 hl
    have hidx : stdOps.ar .add .i64 (pre.length : Int) 1 = ((pre ++ [p]).length : Int) := by rw [add1 (by omega)]; simp
    rw [f93_1_l0]
    refine ifB_is_t (by rw [hn]; exact lss_t hi) <| req_is g3 <| req_is g2 <| getA_is g1 ?_
    simp only [pav, sh150]
    rw [hidx, eql_is]
    have hpn : p ∈ m.P := hpi ▸ List.getElem_mem hi
    by_cases e : p.n = x.1
    · refine ifB_is_t (by rw [e]; simp) ?_
      have hle := hok.1 e
      have hw := seen_le hok
      have hpb := hI.pb p hpn
      refine bindR_is (f99_is hle.1 hle.2 (by omega) (by omega)) ?_
      have hs : seen1 x.1 w p = ov w p.i.toNat p.b := if_pos e
      have hss : seen (p :: rest) x.1 w = seen rest x.1 (seen1 x.1 w p) := rfl
      rw [hss, ← hs]; exact ih
    · refine ifB_is_f ?_ ?_
      · rw [decide_eq_false_iff_not]
        intro e2
        exact e (h.inj _ (hI.pn p hpn) _ (List.mem_map_of_mem hx) (by omega))
      · have hs : seen1 x.1 w p = w := if_neg e
        have hss : seen (p :: rest) x.1 w = seen rest x.1 (seen1 x.1 w p) := rfl
        rw [hss]
        rw [hs] at ih ⊢; exact ih
theorem Rs.fget (h : Rs fs κ m lo n N es row) {x : ByteArray × List AV} (hx : x ∈ m.L) : stdOps.get (fs.map fav) (κ x.1 : Int) = some (fav x.2) ∧ stdOps.inb (κ x.1 : Int) (stdOps.len (fs.map fav)) := by
  have hg := h.get x hx
  refine ⟨?_, ?_⟩
  · show (fs.map fav)[((κ x.1 : Nat) : Int).toNat]? = _
    rw [show ((κ x.1 : Nat) : Int).toNat = κ x.1 by omega, List.getElem?_map, hg]; rfl
  · have := (List.getElem?_eq_some_iff.1 hg).1
    show (0 : Int) ≤ (κ x.1 : Nat) ∧ ((κ x.1 : Nat) : Int) < ((fs.map fav).length : Int)
    simp; omega
theorem f93_is (hI : Iv m) (h : Rs fs κ m lo n N es row) (hP : m.P.length < 2 ^ 42) {x : ByteArray × List AV} (hx : x ∈ m.L) {fuel : Nat} {most : Int} {down : Bool} (hf : m.P.length < fuel) :
    f93_1 stdOps fuel (κ x.1) (fs.map fav) most lo n N down es row = some (.v0 (seen m.P x.1 x.2)) := by
  obtain ⟨g1, g2⟩ := h.fget hx
  have hl := hI.seen_le hx
  unfold f93_1
  refine req_is g2 <| getA_is g1 ?_
  simp only [fav, sh147]
  refine bindR_is (f93_l0_is hI h hP hx m.P [] fuel x.2 rfl hf (hI.ok x hx) hl) ?_
  exact bindR_is (f95_is (l := seen m.P x.1 x.2) (by omega)) rfl
theorem Iv.sorted_names (hI : Iv m) {ns : List ByteArray} (hp : ns.Perm m.names) : sortS ns = m.names := by
  rw [sortS_perm hp]
  unfold sortS sortL
  have h2 : (m.names.map bl).Pairwise fun a b => decide (a ≤ b) = true := by
    unfold Mo.names
    rw [List.map_map, List.pairwise_map]
    refine hI.sorted.imp ?_
    intro a b hab
    rw [decide_eq_true_eq]
    exact List.le_of_lt hab
  rw [List.mergeSort_of_pairwise h2, List.map_map]
  conv => rhs; rw [← List.map_id m.names]
  exact List.map_congr_left fun x _ => lb_bl x
theorem names_is (hI : Iv m) (h : Rs fs κ m lo n N es row) {fuel : Nat} : f135 stdOps fuel es = some (.v0 (m.names.map nav) es) := by
  obtain ⟨ns, he, hp⟩ := h.es
  have hl : ns.length ≤ 4096 := by rw [hp.length_eq]; simp only [Mo.names, List.length_map]; exact hI.max
  have hn : NamesOk es ns := ⟨by rw [he, List.map_map]; rfl, by omega⟩
  unfold f135
  rw [namesS_is hn, hI.sorted_names hp]; rfl
theorem sum_perm {l k : List Nat} (h : l.Perm k) : l.sum = k.sum := by
  induction h with
  | nil => rfl
  | cons _ _ ih => simp [ih]
  | swap a b l => simp; omega
  | trans _ _ h1 h2 => exact h1.trans h2
theorem f52_l0_is (hI : Iv m) (h : Rs fs κ m lo n N es row) (hP : m.P.length < 2 ^ 42) {fuel : Nat} {most : Int} {down : Bool} (hf : m.P.length < fuel) :
    ∀ (rest pre : List (ByteArray × List AV)) (f : Nat) (w : Int), m.L = pre ++ rest → rest.length < f → w = most - (pre.map fun x => (seen m.P x.1 x.2).length).sum → 0 ≤ most → most ≤ 4194304 →
      f52_l0 stdOps fuel (m.names.map nav) es (fs.map fav) most lo n N down row f pre.length w = some (.x0 (most - m.used))
  | [], pre, f + 1, w, hp, hf', hw, h0, h1 => by
    have hl : stdOps.len (m.names.map nav) = (m.L.length : Int) := by simp [stdOps, Mo.names]
    rw [f52_l0, hl]
    refine ifB_is_f (lss_f (by rw [hp]; simp)) ?_
    rw [hw, Mo.used, hp, List.append_nil]
  | x :: rest, pre, f + 1, w, hp, hf', hw, h0, h1 => by
    have hi : pre.length < m.L.length := by rw [hp]; simp
    have hx : x ∈ m.L := by rw [hp]; simp
    have hl : stdOps.len (m.names.map nav) = (m.L.length : Int) := by simp [stdOps, Mo.names]
    have hg : stdOps.get (m.names.map nav) (pre.length : Int) = some (nav x.1) := by simp [stdOps, Mo.names, hp]
    obtain ⟨ns, he, hpm⟩ := h.es
    have hu := hI.left
    have hsum : (pre.map fun x => (seen m.P x.1 x.2).length).sum + (seen m.P x.1 x.2).length ≤ m.used := by
      rw [Mo.used, hp, List.map_append, List.sum_append, List.map_cons, List.sum_cons]; omega
    have hsl := hI.seen_le hx
    have hm4 := hI.max
    have hu2 : (m.used : Int) ≤ 4194304 := by have := hI.m1; omega
    have hsub : stdOps.ar .sub .i64 w (stdOps.len (seen m.P x.1 x.2)) = w - (seen m.P x.1 x.2).length := wr_i64 (by rw [len_is]; omega) (by rw [len_is]; omega)
    have ih := f52_l0_is hI h hP (most := most) (down := down) hf rest (pre ++ [x]) f (w - (seen m.P x.1 x.2).length) (by simpa using hp) (by simp at hf'; omega) (by rw [hw]; simp; omega) h0 h1
    have hidx : stdOps.ar .add .i64 (pre.length : Int) 1 = ((pre ++ [x]).length : Int) := by rw [add1 (by omega)]; simp
    rw [f52_l0, hl]
    refine ifB_is_t (lss_t hi) <| req_is (show (0 : Int) ≤ pre.length ∧ (pre.length : Int) < m.L.length by omega) <| getA_is hg ?_
    simp only [nav, sh9]
    rw [he, findE, if_pos (hpm.mem_iff.2 (List.mem_map_of_mem hx)), ← he]
    refine bindR_is (f93_is hI h hP hx hf) ?_
    simp only
    rw [hsub, hidx]; exact ih
theorem f52_is (hI : Iv m) (h : Rs fs κ m lo n N es row) (hP : m.P.length < 2 ^ 42) {fuel : Nat} {down : Bool} (hf : m.P.length < fuel) (hf2 : 5000 < fuel) :
    f52 stdOps fuel (fs.map fav) m.most lo n N down es row = some (.v0 m.left es) := by
  unfold f52
  have hm := hI.max
  refine bindR_is f96_is <| ifB_is_f rfl <| bindR_is (v := .v0) rfl <| bindR_is f96_is <| ifB_is_f rfl <| bindR_is (v := .v0) rfl <| bindR_is (names_is hI h) ?_
  have := f52_l0_is hI h hP (most := m.most) (down := down) hf m.L [] fuel m.most rfl (by omega) (by simp) hI.m0 hI.m1
  exact bindR_is this rfl
end
end Go.Proofs.Ytjdbmfipciadfaa.A
