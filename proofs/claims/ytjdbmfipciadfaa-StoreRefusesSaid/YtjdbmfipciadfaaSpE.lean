/- Stores: the document's answer: what each of its calls does. -/import Derived.Test.YtjdbmfipciadfaaSpD
namespace Go.Proofs.Ytjdbmfipciadfaa.A
open Go Go.Pt
def lav (x : ByteArray × List AV) : AV := .agg [.str x.1, .sl 1 x.2 .no]
def qav (p : Pw) : AV := .agg [.str p.n, .int .i64 p.i, .sl 1 p.b .no]
theorem get0 {β : Type} {f : β → AV} {l : List β} {i : Nat} {v : β} (h : l[i]? = some v) : stdOps.get (l.map f) (stdOps.sum 0 (i : Int)) = some (f v) ∧ stdOps.inb (stdOps.sum 0 (i : Int)) (stdOps.len (l.map f)) ∧ stdOps.inb (i : Int) (l.length : Int) := by
  have hl := (List.getElem?_eq_some_iff.1 h).1
  obtain ⟨h1, h2⟩ := get_row (row := l.map f) (i := i) (v := f v) (by rw [List.getElem?_map, h]; rfl)
  exact ⟨h1, h2, show (0 : Int) ≤ i ∧ (i : Int) < l.length by omega⟩
theorem sub_front {A C : List AV} : stdOps.sub (A ++ C) 0 (stdOps.sum 0 (A.length : Int)) = A := by
  show ((A ++ C).take ((0 : Int) + A.length).toNat).drop 0 = A
  rw [List.drop_zero, show ((0 : Int) + A.length).toNat = A.length by omega, List.take_left]
theorem sub_all {A : List AV} : stdOps.sub A 0 (stdOps.len A) = A := by
  show (A.take ((A.length : Int)).toNat).drop 0 = A
  rw [List.drop_zero, Int.toNat_natCast, List.take_length]
theorem sub_all0 {A : List AV} : stdOps.sub A 0 (stdOps.sum 0 (stdOps.len A)) = A := by
  rw [show stdOps.sum 0 (stdOps.len A) = stdOps.len A by simp [stdOps]]; exact sub_all
theorem sub_back {A C : List AV} {q t : Int} (hq : q = A.length) (ht : t = (A ++ C).length) : stdOps.sub (A ++ C) q t = C := by
  show ((A ++ C).take t.toNat).drop q.toNat = C
  rw [ht, hq, Int.toNat_natCast, Int.toNat_natCast, List.take_length, List.drop_left]
theorem room_ok {xs ys : List AV} {b : Nat} (h : (xs.length + ys.length) * b ≤ 2 ^ 47) : stdOps.room xs ys b := h
section
variable {m : Mo}
theorem split_name (hI : Iv m) {name : ByteArray} (hn : name ∈ m.names) : ∃ A C, m.L = A ++ (name, m.sure name) :: C ∧ (∀ y ∈ A, y.1 ≠ name) ∧ ∀ y ∈ C, y.1 ≠ name := by
  obtain ⟨A, C, hs⟩ := List.append_of_mem (Mo.mem_sure hI.nodup hn)
  have hnd := hI.nodup
  unfold Mo.names at hnd
  rw [hs, List.map_append, List.map_cons, List.nodup_append] at hnd
  obtain ⟨_, h2, h3⟩ := hnd
  rw [List.nodup_cons] at h2
  refine ⟨A, C, hs, fun y hy e => ?_, fun y hy e => h2.1 (List.mem_map.2 ⟨y, hy, e⟩)⟩
  exact h3 y.1 (List.mem_map_of_mem hy) name List.mem_cons_self e
theorem f142_l0_is {L : List (ByteArray × List AV)} (hL : L.length < 2 ^ 42) {name : ByteArray} {fuel : Nat} {a1 a11 : List AV} {a4 a5 a6 a7 a8 : Int} {a9 : Bool} : ∀ (rest pre : List (ByteArray × List AV)) (f : Nat), L = pre ++ rest → rest.length < f → (∀ y ∈ pre, y.1 ≠ name) →
    ((name ∉ rest.map Prod.fst → f142_l0 stdOps fuel L.length 0 (L.map lav) name a1 a4 a5 a6 a7 a8 a9 a11 f pre.length = some .x1) ∧
      ∀ A x C, rest = A ++ x :: C → x.1 = name → (∀ y ∈ A, y.1 ≠ name) → f142_l0 stdOps fuel L.length 0 (L.map lav) name a1 a4 a5 a6 a7 a8 a9 a11 f pre.length = some (.x0 ((pre ++ A).length : Int)))
  | [], pre, f + 1, hp, hf, ha => by
    refine ⟨fun _ => ?_, fun A x C h => by simp at h⟩
    rw [f142_l0]
    exact ifB_is_f (lss_f (by rw [hp]; simp)) rfl
  | y :: rest, pre, f + 1, hp, hf, ha => by
    have hi : pre.length < L.length := by rw [hp]; simp
    obtain ⟨g1, g2, g3⟩ := get0 (f := lav) (l := L) (i := pre.length) (v := y) (by rw [hp]; simp)
    have hidx : stdOps.ar .add .i64 (pre.length : Int) 1 = ((pre ++ [y]).length : Int) := by rw [add1 (by omega)]; simp
    by_cases e : y.1 = name
    · refine ⟨fun h => absurd (by rw [← e]; simp) h, fun A x C h hx hA => ?_⟩
      have hA0 : A = [] := by
        cases A with
        | nil => rfl
        | cons z A =>
          rw [List.cons_append, List.cons.injEq] at h
          exact absurd (h.1 ▸ e) (hA z List.mem_cons_self)
      subst hA0
      rw [f142_l0]
      refine ifB_is_t (lss_t hi) <| req_is g3 <| req_is g2 <| getA_is g1 ?_
      simp only [lav, sh164]
      exact ifB_is_t (by rw [seq_is, e]; simp) (by simp)
    · obtain ⟨i1, i2⟩ := f142_l0_is hL (name := name) (fuel := fuel) (a1 := a1) (a11 := a11) (a4 := a4) (a5 := a5) (a6 := a6) (a7 := a7) (a8 := a8) (a9 := a9) rest (pre ++ [y]) f (by simpa using hp) (by simp at hf; omega) (fun z hz => by
        rcases List.mem_append.1 hz with hz | hz
        · exact ha z hz
        · rw [List.mem_singleton.1 hz]; exact e)
      rw [hidx.symm] at i1 i2
      have step : ∀ {r}, f142_l0 stdOps fuel L.length 0 (L.map lav) name a1 a4 a5 a6 a7 a8 a9 a11 f (stdOps.ar .add .i64 (pre.length : Int) 1) = some r → f142_l0 stdOps fuel L.length 0 (L.map lav) name a1 a4 a5 a6 a7 a8 a9 a11 (f + 1) pre.length = some r := by
        intro r hr
        rw [f142_l0]
        refine ifB_is_t (lss_t hi) <| req_is g3 <| req_is g2 <| getA_is g1 ?_
        simp only [lav, sh164]
        exact ifB_is_f (by rw [seq_is, decide_eq_false_iff_not]; exact e) hr
      refine ⟨fun h => step (i1 fun hm => h (List.mem_cons_of_mem _ hm)), fun A x C h hx hA => ?_⟩
      cases A with
      | nil =>
        rw [List.nil_append, List.cons.injEq] at h
        exact absurd (h.1 ▸ hx) e
      | cons z A =>
        rw [List.cons_append, List.cons.injEq] at h
        have := step (i2 A x C h.2 hx fun w hw => hA w (List.mem_cons_of_mem _ hw))
        rw [← h.1]
        simpa using this
theorem f142_no {L : List (ByteArray × List AV)} (hL : L.length < 2 ^ 42) {name : ByteArray} {fuel : Nat} (hf : L.length < fuel) {a1 a11 : List AV} {a4 a5 a6 a7 a8 : Int} {a9 : Bool} (h : name ∉ L.map Prod.fst) :
    f142 stdOps fuel name a1 0 L.length a4 a5 a6 a7 a8 a9 (L.map lav) a11 = some (.v0 (-1)) := by
  unfold f142
  exact bindR_is ((f142_l0_is hL L [] fuel rfl hf (by simp)).1 h) rfl
theorem f142_at {L : List (ByteArray × List AV)} (hL : L.length < 2 ^ 42) {name : ByteArray} {fuel : Nat} (hf : L.length < fuel) {a1 a11 : List AV} {a4 a5 a6 a7 a8 : Int} {a9 : Bool} {A C : List (ByteArray × List AV)} {b : List AV} (h : L = A ++ (name, b) :: C) (hA : ∀ y ∈ A, y.1 ≠ name) :
    f142 stdOps fuel name a1 0 L.length a4 a5 a6 a7 a8 a9 (L.map lav) a11 = some (.v0 (A.length : Int)) := by
  unfold f142
  have := (f142_l0_is hL (name := name) (fuel := fuel) (a1 := a1) (a11 := a11) (a4 := a4) (a5 := a5) (a6 := a6) (a7 := a7) (a8 := a8) (a9 := a9) L [] fuel rfl hf (by simp)).2 A (name, b) C h rfl hA
  exact bindR_is this (by simp)
theorem f144_is (hI : Iv m) {name : ByteArray} {fuel : Nat} (hf : 5000 < fuel) {A : List AV} {a4 a5 a6 a7 a8 : Int} {a11 : List AV} :
    f144 stdOps fuel name A 0 m.L.length a4 a5 a6 a7 a8 m.down (m.L.map lav) a11 = some (.v0 (m.fnd name)) := by
  have hmx := hI.max
  unfold f144 Mo.fnd
  cases m.down with
  | true => rfl
  | false =>
    refine ifB_is_f rfl ?_
    by_cases hn : name ∈ m.names
    · obtain ⟨B, C, h1, h2, _⟩ := split_name hI hn
      refine bindR_is (f142_at (by omega) (by omega) h1 h2) ?_
      simp only [hn, if_true]
      exact ifB_is_f (by simp only [stdOps, decide_eq_false_iff_not]; omega) rfl
    · refine bindR_is (f142_no (by omega) (by omega) hn) ?_
      simp only [hn, if_false]
      exact ifB_is_t (by decide) rfl
theorem f147_is {fuel : Nat} {b x : List AV} {i : Int} {A : List AV} (h0 : 0 ≤ i) (h1 : i ≤ b.length) (hb : b.length ≤ 2 ^ 30) (hx : x.length ≤ 2 ^ 30) : f147 stdOps fuel b i x A = some (.v0 (ov b i.toNat x)) := by
  have hs : stdOps.apnd (stdOps.apnd [] (stdOps.sub b 0 i)) x = b.take i.toNat ++ x := rfl
  have hl : (b.take i.toNat ++ x).length = i.toNat + x.length := by simp; omega
  unfold f147
  rw [hs]
  refine req_is h0 <| req_is h1 <| req_is (room_ok (show (([] : List AV).length + (b.take i.toNat).length) * 1 ≤ 2 ^ 47 by simp; omega)) <| req_is (room_ok (show ((b.take i.toNat).length + x.length) * 1 ≤ 2 ^ 47 by simp; omega)) ?_
  by_cases hlt : i.toNat + x.length < b.length
  · have hd : stdOps.drop b (stdOps.len (b.take i.toNat ++ x)) = b.drop (i.toNat + x.length) := by
      show b.drop ((b.take i.toNat ++ x).length : Int).toNat = _
      rw [Int.toNat_natCast, hl]
    rw [hd]
    refine ifB_is_t (by rw [len_is, len_is, hl]; exact lss_t hlt) <| req_is (show (0 : Int) ≤ ((b.take i.toNat ++ x).length : Int) by omega) <| req_is (show ((b.take i.toNat ++ x).length : Int) ≤ (b.length : Int) by omega) <|
      req_is (room_ok (by rw [hl, List.length_drop]; omega)) rfl
  · refine ifB_is_f (by rw [len_is, len_is, hl]; exact lss_f hlt) ?_
    unfold ov
    rw [List.drop_of_length_le (by omega), List.append_nil]
theorem f145_l0_is (hI : Iv m) (hP : m.P.length < 2 ^ 42) {name : ByteArray} {fuel : Nat} {A a10 : List AV} {a2 a3 a4 a7 a8 : Int} {a9 : Bool} : ∀ (rest pre : List Pw) (f : Nat) (w : List AV), m.P = pre ++ rest → rest.length < f → okW rest name w → (seen rest name w).length ≤ 2 ^ 22 →
    f145_l0 stdOps fuel m.P.length 0 (m.P.map qav) name A a2 a3 a4 a7 a8 a9 a10 f w pre.length = some (.x0 (seen rest name w))
  | [], pre, f + 1, w, hp, hf, hok, hl => by
    rw [f145_l0]
    exact ifB_is_f (lss_f (by rw [hp]; simp)) rfl
  | p :: rest, pre, f + 1, w, hp, hf, hok, hl => by
    have hi : pre.length < m.P.length := by rw [hp]; simp
    have hpm : p ∈ m.P := by rw [hp]; simp
    obtain ⟨g1, g2, g3⟩ := get0 (f := qav) (l := m.P) (i := pre.length) (v := p) (by rw [hp]; simp)
    have hidx : stdOps.ar .add .i64 (pre.length : Int) 1 = ((pre ++ [p]).length : Int) := by rw [add1 (by omega)]; simp
    have ih := f145_l0_is hI hP (name := name) (fuel := fuel) (A := A) (a10 := a10) (a2 := a2) (a3 := a3) (a4 := a4) (a7 := a7) (a8 := a8) (a9 := a9) rest (pre ++ [p]) f (seen1 name w p) (by simpa using hp) (by simp at hf; omega) hok.2 hl
    have hss : seen (p :: rest) name w = seen rest name (seen1 name w p) := rfl
    rw [f145_l0, hidx, hss]
    refine ifB_is_t (lss_t hi) <| req_is g3 <| req_is g2 <| getA_is g1 ?_
    simp only [qav, sh158]
    by_cases e : p.n = name
    · have hle := hok.1 e
      have hw := seen_le hok
      have hpb := hI.pb p hpm
      have hs : seen1 name w p = ov w p.i.toNat p.b := if_pos e
      refine ifB_is_t (by rw [seq_is, e]; simp) <| req_is g3 <| req_is g2 <| getA_is g1 ?_
      refine req_is g3 <| req_is g2 <| getA_is g1 ?_
      refine bindR_is (f147_is hle.1 hle.2 (by omega) (by omega)) ?_
      rw [← hs]; exact ih
    · have hs : seen1 name w p = w := if_neg e
      rw [hs] at ih ⊢
      exact ifB_is_f (by rw [seq_is, decide_eq_false_iff_not]; exact e) ih
theorem f145_is (hI : Iv m) (hP : m.P.length < 2 ^ 42) {name : ByteArray} (hn : name ∈ m.names) {fuel : Nat} (hf : 5000 < fuel) (hf2 : m.P.length < fuel) {A : List AV} {a4 a7 a8 : Int} {a9 : Bool} :
    f145 stdOps fuel name A 0 m.L.length a4 0 m.P.length a7 a8 a9 (m.L.map lav) (m.P.map qav) = some (.v0 (m.all name)) := by
  have hmx := hI.max
  obtain ⟨B, C, h1, h2, _⟩ := split_name hI hn
  obtain ⟨g1, g2, g3⟩ := get0 (f := lav) (l := m.L) (i := B.length) (v := (name, m.sure name)) (by rw [h1]; simp)
  have hmem := Mo.mem_sure hI.nodup hn
  unfold f145
  refine bindR_is (f142_at (by omega) (by omega) h1 h2) <| req_is g3 <| req_is g2 <| getA_is g1 ?_
  simp only [lav, sh164]
  exact bindR_is (f145_l0_is hI hP m.P [] fuel (m.sure name) rfl hf2 (hI.ok _ hmem) (hI.seen_le hmem)) rfl
theorem f120_l0_is (hI : Iv m) (hP : m.P.length < 2 ^ 42) {fuel : Nat} (hf : 5000 < fuel) (hf2 : m.P.length < fuel) {A : List AV} {a3 a6 : Int} {a8 : Bool} : ∀ (rest pre : List (ByteArray × List AV)) (f : Nat) (w : Int), m.L = pre ++ rest → rest.length < f → w = m.most - (pre.map fun x => (seen m.P x.1 x.2).length).sum →
    f120_l0 stdOps fuel m.L.length 0 (m.L.map lav) A a3 0 m.P.length a6 m.most a8 (m.P.map qav) f w pre.length = some (.x0 m.left)
  | [], pre, f + 1, w, hp, hf', hw => by
    rw [f120_l0]
    refine ifB_is_f (lss_f (by rw [hp]; simp)) ?_
    rw [hw, Mo.left, Mo.used, hp, List.append_nil]
  | x :: rest, pre, f + 1, w, hp, hf', hw => by
    have hi : pre.length < m.L.length := by rw [hp]; simp
    have hx : x ∈ m.L := by rw [hp]; simp
    have hxn : x.1 ∈ m.names := List.mem_map_of_mem hx
    obtain ⟨g1, g2, g3⟩ := get0 (f := lav) (l := m.L) (i := pre.length) (v := x) (by rw [hp]; simp)
    have hu := hI.left
    have hm1 := hI.m1
    have hm0 := hI.m0
    have hmx := hI.max
    have hsum : (pre.map fun x => (seen m.P x.1 x.2).length).sum + (seen m.P x.1 x.2).length ≤ m.used := by
      rw [Mo.used, hp, List.map_append, List.sum_append, List.map_cons, List.sum_cons]; omega
    have hall : m.all x.1 = seen m.P x.1 x.2 := by unfold Mo.all; rw [Mo.sure_of hI.nodup (show (x.1, x.2) ∈ m.L from hx)]
    have hsub : stdOps.ar .sub .i64 w (stdOps.len (seen m.P x.1 x.2)) = w - (seen m.P x.1 x.2).length := wr_i64 (by rw [len_is]; omega) (by rw [len_is]; omega)
    have ih := f120_l0_is hI hP hf hf2 (A := A) (a3 := a3) (a6 := a6) (a8 := a8) rest (pre ++ [x]) f (w - (seen m.P x.1 x.2).length) (by simpa using hp) (by simp at hf'; omega) (by rw [hw]; simp; omega)
    have hidx : stdOps.ar .add .i64 (pre.length : Int) 1 = ((pre ++ [x]).length : Int) := by rw [add1 (by omega)]; simp
    rw [f120_l0, hidx]
    refine ifB_is_t (lss_t hi) <| req_is g3 <| req_is g2 <| getA_is g1 ?_
    simp only [lav, sh164]
    refine bindR_is (f145_is hI hP hxn hf hf2) ?_
    simp only
    rw [hall, hsub]; exact ih
theorem f120_is (hI : Iv m) (hP : m.P.length < 2 ^ 42) {fuel : Nat} (hf : 5000 < fuel) (hf2 : m.P.length < fuel) {A : List AV} {a3 a6 : Int} {a8 : Bool} :
    f120 stdOps fuel A 0 m.L.length a3 0 m.P.length a6 m.most a8 (m.L.map lav) (m.P.map qav) = some (.v0 m.left) := by
  have hmx := hI.max
  unfold f120
  exact bindR_is (f120_l0_is hI hP hf hf2 m.L [] fuel m.most rfl (by omega) (by simp)) rfl
variable {A : List AV} {fuel : Nat}
theorem mem_tw {β : Type} {p : β → Bool} {y : β} : ∀ {l : List β}, y ∈ l.takeWhile p → p y = true
  | x :: l, h => by
    rw [List.takeWhile_cons] at h
    split at h
    · rename_i hx
      rcases List.mem_cons.1 h with rfl | h
      · exact hx
      · exact mem_tw h
    · cases h
theorem insL_parts (n : ByteArray) (b : List AV) (L : List (ByteArray × List AV)) : ∃ B C, L = B ++ C ∧ insL n b L = B ++ (n, b) :: C ∧ (∀ y ∈ B, decide (bl y.1 < bl n) = true) ∧ ∀ z D, C = z :: D → decide (bl z.1 < bl n) = false := by
  refine ⟨_, _, (List.takeWhile_append_dropWhile (p := fun x => decide (bl x.1 < bl n)) (l := L)).symm, rfl, fun y hy => ?_, fun z D hz => ?_⟩
  · exact mem_tw (p := fun x : ByteArray × List AV => decide (bl x.1 < bl n)) hy
  · have := List.head_dropWhile_not (fun x : ByteArray × List AV => decide (bl x.1 < bl n)) (l := L) (by rw [hz]; simp)
    simpa [hz] using this
theorem f143_l0_is {L : List (ByteArray × List AV)} (hL : L.length < 2 ^ 42) {name : ByteArray} {a2 a12 a1 : List AV} {a5 a6 a7 a8 a9 : Int} {a10 : Bool} {C : List (ByteArray × List AV)} (hC : ∀ z D, C = z :: D → decide (bl z.1 < bl name) = false) :
    ∀ (rest pre : List (ByteArray × List AV)) (f : Nat), L = pre ++ rest ++ C → rest.length + 1 < f → (∀ y ∈ rest, decide (bl y.1 < bl name) = true) →
    f143_l0 stdOps fuel L.length 0 (L.map lav) name a2 a5 a6 a7 a8 a9 a10 a12 a1 f pre.length = some (.x0 ((pre ++ rest).length : Int))
  | [], pre, f + 1, hp, hf, hr => by
    rw [f143_l0, List.append_nil]
    cases C with
    | nil => exact ifB_is_f (lss_f (by rw [hp]; simp)) rfl
    | cons z D =>
      have hi : pre.length < L.length := by rw [hp]; simp
      obtain ⟨g1, g2, g3⟩ := get0 (f := lav) (l := L) (i := pre.length) (v := z) (by rw [hp]; simp)
      refine ifB_is_t (lss_t hi) <| req_is g3 <| req_is g2 <| getA_is g1 ?_
      simp only [lav, sh164]
      rw [scmp_is, hC z D rfl, lss_t hi]; rfl
  | y :: rest, pre, f + 1, hp, hf, hr => by
    have hi : pre.length < L.length := by rw [hp]; simp
    obtain ⟨g1, g2, g3⟩ := get0 (f := lav) (l := L) (i := pre.length) (v := y) (by rw [hp]; simp)
    have hidx : stdOps.ar .add .i64 (pre.length : Int) 1 = ((pre ++ [y]).length : Int) := by rw [add1 (by omega)]; simp
    have ih := f143_l0_is hL (name := name) (a2 := a2) (a12 := a12) (a1 := a1) (a5 := a5) (a6 := a6) (a7 := a7) (a8 := a8) (a9 := a9) (a10 := a10) hC rest (pre ++ [y]) f (by simpa using hp) (by simp at hf; omega) (fun z hz => hr z (List.mem_cons_of_mem _ hz))
    rw [f143_l0, hidx]
    refine ifB_is_t (lss_t hi) <| req_is g3 <| req_is g2 <| getA_is g1 ?_
    simp only [lav, sh164]
    rw [scmp_is, hr y List.mem_cons_self, lss_t hi]
    have : pre ++ y :: rest = pre ++ [y] ++ rest := by simp
    rw [this]; exact ih
theorem f143_is {L : List (ByteArray × List AV)} (hL : L.length ≤ 2 ^ 30) (hf : L.length + 1 < fuel) {name : ByteArray} {b : List AV} {a6 a7 a8 a9 : Int} {a10 : Bool} {a12 : List AV} :
    f143 stdOps fuel name b A 0 L.length L.length a6 a7 a8 a9 a10 (L.map lav) a12 = some (.v0 0 (insL name b L).length (insL name b L).length ((insL name b L).map lav)) := by
  obtain ⟨B, C, h1, h2, h3, h4⟩ := insL_parts name b L
  rw [h2]
  have hLm : L.map lav = B.map lav ++ C.map lav := by rw [h1, List.map_append]
  have hll : L.length = B.length + C.length := by rw [h1, List.length_append]
  have hl := f143_l0_is (fuel := fuel) (by omega : L.length < 2 ^ 42) (name := name) (a2 := A) (a12 := a12) (a1 := b) (a5 := L.length) (a6 := a6) (a7 := a7) (a8 := a8) (a9 := a9) (a10 := a10) h4 B [] fuel (by simpa using h1) (by omega) h3
  unfold f143
  refine bindR_is hl ?_
  simp only [List.nil_append]
  have e1 : stdOps.sub (L.map lav) 0 (stdOps.sum 0 (B.length : Int)) = B.map lav := by
    have := sub_front (A := B.map lav) (C := C.map lav)
    rwa [← hLm, List.length_map] at this
  have e3 : stdOps.sub (L.map lav) (stdOps.sum 0 (B.length : Int)) (stdOps.sum (stdOps.sum 0 (B.length : Int)) (stdOps.dif (L.length : Int) (B.length : Int))) = C.map lav := by
    rw [hLm]
    refine sub_back ?_ ?_
    · show (0 : Int) + B.length = _; simp
    · show (0 : Int) + B.length + ((L.length : Int) - B.length) = _; simp; omega
  have hn : stdOps.apnd (stdOps.apnd (B.map lav) [.agg [.str name, .sl 1 b .no]]) (C.map lav) = (B ++ (name, b) :: C).map lav := by
    show B.map lav ++ [_] ++ C.map lav = _
    simp [lav]
  have hlen : stdOps.len ((B ++ (name, b) :: C).map lav) = ((B ++ (name, b) :: C).length : Int) := by simp [stdOps]
  rw [e1, e3, sub_all, sub_all, hn, hlen]
  refine req_is (show (0 : Int) ≤ B.length by omega) <| req_is (show (0 : Int) + (B.length : Int) ≤ L.length by omega) <| req_is (show (0 : Int) ≤ 0 by omega) <| req_is (show (0 : Int) ≤ B.length by omega) <| req_is (show (0 : Int) + (B.length : Int) ≤ ((L.map lav).length : Int) by simp; omega) <|
    req_is rfl <| req_is (room_ok (by simp; omega)) <| req_is rfl <| req_is (show (0 : Int) ≤ ((B.map lav).length : Int) by omega) <| req_is (Int.le_refl _) <| req_is (room_ok (by simp; omega)) <| req_is (show (0 : Int) ≤ B.length by omega) <| req_is (show (B.length : Int) ≤ L.length by omega) <|
    req_is (show (0 : Int) ≤ 0 + (B.length : Int) by omega) <| req_is (show (0 : Int) ≤ (L.length : Int) - B.length by omega) <| req_is (show (0 : Int) + B.length + ((L.length : Int) - B.length) ≤ ((L.map lav).length : Int) by simp; omega) <| req_is rfl <|
    req_is (show (0 : Int) ≤ ((stdOps.apnd (B.map lav) [.agg [.str name, .sl 1 b .no]]).length : Int) by omega) <| req_is (Int.le_refl _) <| req_is (room_ok (by simp [stdOps]; omega)) rfl
theorem insL_length {n : ByteArray} {b : List AV} {L : List (ByteArray × List AV)} : (insL n b L).length = L.length + 1 := (insL_perm n b L).length_eq
theorem f110_is (hI : Iv m) (hf : 5000 < fuel) {name : ByteArray} {a5 a6 a7 a8 : Int} {a11 : List AV} :
    f110 stdOps fuel name A 0 m.L.length m.L.length a5 a6 a7 a8 m.down (m.L.map lav) a11 = some (.v0 (m.create name).1 0 (m.create name).2.L.length (m.create name).2.L.length ((m.create name).2.L.map lav)) := by
  have hmx := hI.max
  unfold f110 Mo.create
  cases hd : m.down with
  | true => rfl
  | false =>
    simp only [Bool.false_eq_true, if_false]
    rw [ifB_f rfl, seq_is]
    by_cases h1 : name = emp0
    · rw [ifB_t (by rw [h1]; rfl), if_pos (.inl h1)]
    · rw [ifB_f (by rw [decide_eq_false_iff_not]; exact h1)]
      by_cases h2 : name ∈ m.names
      · rw [if_pos (.inr h2)]
        obtain ⟨B, C, q1, q2, _⟩ := split_name hI h2
        refine bindR_is (f142_at (by omega) (by omega) q1 q2) ?_
        exact ifB_is_t (by simp only [stdOps, decide_eq_true_eq]; omega) rfl
      · rw [if_neg (fun e => e.elim h1 h2)]
        refine bindR_is (f142_no (by omega) (by omega) h2) ?_
        refine ifB_is_f (by decide) ?_
        by_cases h3 : 4096 ≤ m.L.length
        · rw [if_pos h3]
          exact ifB_is_t (by simp only [stdOps, decide_eq_true_eq]; omega) rfl
        · rw [if_neg h3]
          refine ifB_is_f (by simp only [stdOps, decide_eq_false_iff_not]; omega) ?_
          exact bindR_is (f143_is (by omega) (by omega)) rfl
theorem f111_is (hI : Iv m) (hP : (m.P.length + 1) * 48 ≤ 2 ^ 47) (hf : 5000 < fuel) (hf2 : m.P.length < fuel) {name : ByteArray} {i : Int} {b : List AV} (hb : b.length ≤ 2 ^ 47) :
    f111 stdOps fuel name i b A 0 m.L.length m.L.length 0 m.P.length m.P.length m.most m.down (m.L.map lav) (m.P.map qav) = some (.v0 (m.write name i b).1 0 (m.write name i b).2.P.length (m.write name i b).2.P.length ((m.write name i b).2.P.map qav)) := by
  have hP' : m.P.length < 2 ^ 42 := by omega
  unfold f111 Mo.write
  rw [bindR_eq (f144_is hI hf)]
  simp only
  by_cases h0 : m.fnd name = 0
  · rw [if_neg (by simpa using h0), h0, ifB_f bnot_eq]
    have hm : name ∈ m.names := by
      unfold Mo.fnd at h0
      by_cases hd : m.down = true
      · rw [if_pos hd] at h0; simp at h0
      · rw [if_neg hd] at h0
        by_cases hn : name ∈ m.names
        · exact hn
        · rw [if_neg hn] at h0; simp at h0
    have hal := hI.all_le hm
    rw [bindR_eq (f145_is hI hP' hm hf hf2)]
    simp only
    by_cases h1 : i < 0 ∨ ((m.all name).length : Int) < i
    · rw [if_pos h1]
      refine ifB_is_t ?_ rfl
      simp only [stdOps]
      rcases h1 with h1 | h1 <;> simp [h1]
    · rw [if_neg h1]
      have h2 : ¬ i < 0 := fun e => h1 (.inl e)
      have h3 : ¬ i > ((m.all name).length : Int) := fun e => h1 (.inr e)
      have hg : stdOps.pick (stdOps.cmp .lss i 0) true (stdOps.cmp .gtr i (stdOps.len (m.all name))) = false := by
        simp only [stdOps]
        simp [h2, h3]
      have hsub : stdOps.ar .sub .i64 (stdOps.len (m.all name)) i = ((m.all name).length : Int) - i := wr_i64 (by rw [len_is]; omega) (by rw [len_is]; omega)
      have hsub2 : stdOps.ar .sub .i64 (stdOps.len b) (((m.all name).length : Int) - i) = (b.length : Int) - ((m.all name).length - i) := wr_i64 (by rw [len_is]; omega) (by rw [len_is]; omega)
      have hl0 := hI.left
      have hlm : 0 ≤ m.left := by unfold Mo.left; omega
      have fin : b ≠ [] → req (stdOps.room [] b 1) (req (stdOps.is 0 0) (req (stdOps.le 0 (m.P.length : Int)) (req (stdOps.le (m.P.length : Int) (stdOps.len (m.P.map qav))) (req (stdOps.room (stdOps.sub (m.P.map qav) 0 (m.P.length : Int)) [.agg [.str name, .int .i64 i, .sl 1 (stdOps.apnd [] b) .no]] 48)
          (some (F111R.v0 0 0 (stdOps.len (stdOps.apnd (stdOps.sub (m.P.map qav) 0 (m.P.length : Int)) [.agg [.str name, .int .i64 i, .sl 1 (stdOps.apnd [] b) .no]])) (stdOps.len (stdOps.apnd (stdOps.sub (m.P.map qav) 0 (m.P.length : Int)) [.agg [.str name, .int .i64 i, .sl 1 (stdOps.apnd [] b) .no]])) (stdOps.apnd (stdOps.sub (m.P.map qav) 0 (m.P.length : Int)) [.agg [.str name, .int .i64 i, .sl 1 (stdOps.apnd [] b) .no]]))))))) =
          some (F111R.v0 0 0 ((m.P ++ [Pw.mk name i b]).length : Int) ((m.P ++ [Pw.mk name i b]).length : Int) ((m.P ++ [Pw.mk name i b]).map qav)) := fun _ => by
        have e1 : stdOps.sub (m.P.map qav) 0 (m.P.length : Int) = m.P.map qav := by
          have := sub_all (A := m.P.map qav)
          rwa [len_is, List.length_map] at this
        have e2 : stdOps.apnd (m.P.map qav) [.agg [.str name, .int .i64 i, .sl 1 (stdOps.apnd [] b) .no]] = (m.P ++ [Pw.mk name i b]).map qav := by
          rw [List.map_append]; rfl
        rw [e1, e2, len_is, len_is, List.length_map, List.length_map]
        exact req_is (room_ok (by simp; omega)) <| req_is rfl <| req_is (show (0 : Int) ≤ m.P.length by omega) <| req_is (Int.le_refl _) <| req_is (room_ok (by simpa using hP)) rfl
      rw [ifB_f hg, hsub, hsub2]
      by_cases h6 : (b.length : Int) - ((m.all name).length - i) > 0
      · rw [ifB_t (by simp only [stdOps, decide_eq_true_eq]; exact h6), bindR_eq (f120_is hI hP' hf hf2)]
        simp only
        by_cases h4 : m.left < (b.length : Int) - ((m.all name).length - i)
        · rw [if_pos h4]
          exact ifB_is_t (by simp only [stdOps, decide_eq_true_eq]; omega) rfl
        · rw [if_neg h4, ifB_f (by simp only [stdOps, decide_eq_false_iff_not]; omega)]
          by_cases h5 : b = []
          · rw [if_pos h5]
            exact ifB_is_f (by subst h5; rfl) rfl
          · rw [if_neg h5]
            have hbl : 0 < b.length := List.length_pos_iff.2 h5
            exact ifB_is_t (by simp only [stdOps, decide_eq_true_eq]; omega) (fin h5)
      · rw [ifB_f (by simp only [stdOps, decide_eq_false_iff_not]; exact h6), if_neg (by omega)]
        by_cases h5 : b = []
        · rw [if_pos h5]
          exact ifB_is_f (by subst h5; rfl) rfl
        · rw [if_neg h5]
          have hbl : 0 < b.length := List.length_pos_iff.2 h5
          exact ifB_is_t (by simp only [stdOps, decide_eq_true_eq]; omega) (fin h5)
  · rw [if_pos h0]
    exact ifB_is_t (bnot_ne h0) rfl
end
end Go.Proofs.Ytjdbmfipciadfaa.A
