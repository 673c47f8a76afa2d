/- Stores: what each call does, on plain lists; the program's calls that change its store. -/import Derived.Test.YtjdbmfipciadfaaSpB
namespace Go.Proofs.Ytjdbmfipciadfaa.A
open Go Go.Pt
def insL (n : ByteArray) (b : List AV) (L : List (ByteArray × List AV)) : List (ByteArray × List AV) :=
  L.takeWhile (fun x => decide (bl x.1 < bl n)) ++ (n, b) :: L.dropWhile (fun x => decide (bl x.1 < bl n))
def setL (n : ByteArray) (b : List AV) (L : List (ByteArray × List AV)) : List (ByteArray × List AV) := L.map fun x => if x.1 = n then (x.1, b) else x
def outL (n : ByteArray) (L : List (ByteArray × List AV)) : List (ByteArray × List AV) := L.filter fun x => decide (x.1 ≠ n)
def dropP (n : ByteArray) (P : List Pw) : List Pw := P.filter fun p => decide (p.n ≠ n)
def renP (n to : ByteArray) (P : List Pw) : List Pw := P.map fun p => if p.n = n then ⟨to, p.i, p.b⟩ else p
def emp0 : ByteArray := ⟨#[]⟩
def Mo.fnd (m : Mo) (n : ByteArray) : Int := if m.down then 32 else if n ∈ m.names then 0 else 4
def Mo.create (m : Mo) (n : ByteArray) : Int × Mo :=
  if m.down then (32, m) else if n = emp0 ∨ n ∈ m.names then (31, m) else if 4096 ≤ m.L.length then (6, m) else (0, ⟨insL n [] m.L, m.P, m.most, m.down⟩)
def Mo.write (m : Mo) (n : ByteArray) (i : Int) (b : List AV) : Int × Mo :=
  if m.fnd n ≠ 0 then (m.fnd n, m) else if i < 0 ∨ ((m.all n).length : Int) < i then (33, m)
  else if m.left < (b.length : Int) - ((m.all n).length - i) then (30, m) else if b = [] then (0, m) else (0, ⟨m.L, m.P ++ [⟨n, i, b⟩], m.most, m.down⟩)
def Mo.sync (m : Mo) (n : ByteArray) : Int × Mo :=
  if m.fnd n ≠ 0 then (m.fnd n, m) else (0, ⟨setL n (m.all n) m.L, dropP n m.P, m.most, m.down⟩)
def Mo.cut (m : Mo) (n : ByteArray) (i : Int) : Int × Mo :=
  if m.fnd n ≠ 0 then (m.fnd n, m) else if i < 0 ∨ ((m.all n).length : Int) < i then (33, m) else (0, ⟨setL n ((m.all n).take i.toNat) m.L, dropP n m.P, m.most, m.down⟩)
def Mo.remove (m : Mo) (n : ByteArray) : Int × Mo :=
  if m.fnd n ≠ 0 then (m.fnd n, m) else (0, ⟨outL n m.L, dropP n m.P, m.most, m.down⟩)
def Mo.rename (m : Mo) (n to : ByteArray) : Int × Mo :=
  if m.fnd n ≠ 0 then (m.fnd n, m) else if to = emp0 then (31, m) else if to = n then (0, m)
  else (0, ⟨insL to (m.sure n) (outL n (outL to m.L)), renP n to (dropP to m.P), m.most, m.down⟩)
def bare (n : Int) : Nat := if n = -9223372036854775808 then 0 else n.natAbs
def kept (P : List Pw) (keep torn : Int) : List Pw :=
  P.take (bare keep % (P.length + 1)) ++ (match P[bare keep % (P.length + 1)]? with
    | some p => [⟨p.n, p.i, p.b.take (bare torn % (p.b.length + 1))⟩]
    | none => [])
def Mo.crash (m : Mo) (keep torn : Int) : Int × Mo :=
  if m.down then (32, m) else (0, ⟨m.L.map fun x => (x.1, seen (kept m.P keep torn) x.1 x.2), [], m.most, true⟩)
def Mo.start (m : Mo) : Int × Mo := if m.down then (0, ⟨m.L, m.P, m.most, false⟩) else (1, m)
theorem insL_perm (n : ByteArray) (b : List AV) (L : List (ByteArray × List AV)) : (insL n b L).Perm ((n, b) :: L) := by
  unfold insL
  refine List.perm_middle.trans ?_
  rw [List.takeWhile_append_dropWhile]
theorem mem_insL {n : ByteArray} {b : List AV} {L : List (ByteArray × List AV)} {x : ByteArray × List AV} : x ∈ insL n b L ↔ x = (n, b) ∨ x ∈ L := by
  rw [(insL_perm n b L).mem_iff, List.mem_cons]
theorem names_ins {n : ByteArray} {b : List AV} {L : List (ByteArray × List AV)} : ((insL n b L).map Prod.fst).Perm (n :: L.map Prod.fst) := (insL_perm n b L).map _
theorem mem_names_ins {n a : ByteArray} {b : List AV} {L : List (ByteArray × List AV)} : a ∈ (insL n b L).map Prod.fst ↔ a = n ∨ a ∈ L.map Prod.fst := by
  rw [names_ins.mem_iff, List.mem_cons]
theorem names_set {n : ByteArray} {b : List AV} {L : List (ByteArray × List AV)} : (setL n b L).map Prod.fst = L.map Prod.fst := by
  unfold setL
  rw [List.map_map]
  refine List.map_congr_left fun x _ => ?_
  show (if x.1 = n then (x.1, b) else x).1 = x.1
  split <;> rfl
theorem names_out {n : ByteArray} {L : List (ByteArray × List AV)} : (outL n L).map Prod.fst = (L.map Prod.fst).filter fun a => decide (a ≠ n) := by
  unfold outL
  rw [List.filter_map]; rfl
def Ids (κ : ByteArray → Nat) (m : Mo) (k : Nat) : Prop := ∃ a ∈ m.names, κ a = k
structure Fr (fs fs' : List (List AV)) (κ κ' : ByteArray → Nat) (m m' : Mo) : Prop where
  len : fs.length ≤ fs'.length
  old : ∀ k, k < fs.length → ¬ Ids κ m k → fs'[k]? = fs[k]?
  new : ∀ k, Ids κ' m' k → Ids κ m k ∨ fs.length ≤ k
theorem Fr.rfl' {fs : List (List AV)} {κ : ByteArray → Nat} {m m' : Mo} (h : ∀ a ∈ m'.names, a ∈ m.names) : Fr fs fs κ κ m m' :=
  ⟨Nat.le_refl _, fun _ _ _ => rfl, fun _ ⟨a, ha, e⟩ => .inl ⟨a, h a ha, e⟩⟩
theorem Fr.trans {fs fs1 fs2 : List (List AV)} {κ κ1 κ2 : ByteArray → Nat} {m m1 m2 : Mo} (h : Fr fs fs1 κ κ1 m m1) (h' : Fr fs1 fs2 κ1 κ2 m1 m2) : Fr fs fs2 κ κ2 m m2 := by
  refine ⟨Nat.le_trans h.len h'.len, fun k hk hn => ?_, fun k hk => ?_⟩
  · have hl := h.len
    rw [h'.old k (by omega) fun hi => ?_, h.old k hk hn]
    rcases h.new k hi with h1 | h1
    · exact hn h1
    · omega
  · rcases h'.new k hk with h1 | h1
    · exact h.new k h1
    · have := h.len
      exact .inr (by omega)
theorem Rs.frame {fs fs' : List (List AV)} {κ κ1 κ2 : ByteArray → Nat} {m m1 m2 : Mo} {lo n N : Int} {es : List (AV × AV)} {row : List AV} (h : Rs fs κ m lo n N es row) (hf : Fr fs fs' κ1 κ2 m1 m2)
    (hd : ∀ k, Ids κ m k → ¬ Ids κ1 m1 k) : Rs fs' κ m lo n N es row :=
  ⟨h.lo0, h.len, h.cap, h.row, h.es, h.inj, fun x hx => by
    have hg := h.get x hx
    rw [hf.old _ (List.getElem?_eq_some_iff.1 hg).1 (hd _ ⟨x.1, List.mem_map_of_mem hx, rfl⟩)]
    exact hg⟩
section
variable {fs : List (List AV)} {κ : ByteArray → Nat} {m : Mo} {lo n N : Int} {es : List (AV × AV)} {row : List AV}
theorem Rs.lt (h : Rs fs κ m lo n N es row) {a : ByteArray} (ha : a ∈ m.names) : κ a < fs.length := by
  obtain ⟨x, hx, rfl⟩ := List.mem_map.1 ha
  exact (List.getElem?_eq_some_iff.1 (h.get x hx)).1
theorem fnd_find (name : ByteArray) : (m.fnd name = 0 ∧ m.down = false ∧ name ∈ m.names ∧ findV κ m name = .v1 (κ name)) ∨ (m.fnd name ≠ 0 ∧ findV κ m name = .v0 (m.fnd name)) := by
  unfold Mo.fnd findV
  cases m.down with
  | true => exact .inr ⟨by simp, rfl⟩
  | false =>
    by_cases h : name ∈ m.names
    · exact .inl ⟨by simp [h], rfl, h, by simp [h]⟩
    · exact .inr ⟨by simp [h], by simp [h]⟩
theorem bnot_ne {e : Int} (h : e ≠ 0) : stdOps.bnot (stdOps.cmp .eql e 0) = true := by rw [eql_is]; simp [stdOps, h]
theorem bnot_eq : stdOps.bnot (stdOps.cmp .eql 0 0) = false := rfl
theorem f63_is (hI : Iv m) (h : Rs fs κ m lo n N es row) {fuel : Nat} {most : Int} (name : ByteArray) :
    ∃ fs' κ' es', f63 stdOps fuel name (fs.map fav) most lo n N m.down es row = some (.v0 (m.create name).1 (fs'.map fav) es') ∧ Rs fs' κ' (m.create name).2 lo n N es' row ∧ Fr fs fs' κ κ' m (m.create name).2 := by
  obtain ⟨ns, he, hp⟩ := h.es
  unfold f63 Mo.create
  rw [bindR_eq f97_is]
  cases hd : m.down with
  | true =>
    refine ⟨fs, κ, es, rfl, h, .rfl' fun _ h => h⟩
  | false =>
    have hkeep : ∀ {e : Int}, ∃ fs' κ' es', (some (F63R.v0 e (fs.map fav) es) : Option F63R) = some (.v0 e (fs'.map fav) es') ∧ Rs fs' κ' m lo n N es' row ∧ Fr fs fs' κ κ' m m := ⟨fs, κ, es, rfl, h, .rfl' fun _ h => h⟩
    simp only [Bool.false_eq_true, if_false]
    rw [ifB_f bnot_eq, seq_is]
    have hmem : name ∈ ns ↔ name ∈ m.names := hp.mem_iff
    by_cases h1 : name = emp0
    · rw [ifB_t (by rw [h1]; rfl), if_pos (.inl h1)]; exact hkeep
    · rw [ifB_f (by rw [decide_eq_false_iff_not]; exact h1), he, findE]
      by_cases h2 : name ∈ m.names
      · rw [if_pos (hmem.2 h2), if_pos (.inr h2), ← he]; exact hkeep
      · rw [if_neg (fun e => h2 (hmem.1 e)), if_neg (fun e => e.elim h1 h2)]
        have hml : stdOps.mlen (ns.map (eav κ)) = (m.L.length : Int) := by
          show ((ns.map (eav κ)).length : Int) = _
          rw [List.length_map, hp.length_eq, Mo.names, List.length_map]
        rw [hml]
        by_cases h3 : 4096 ≤ m.L.length
        · rw [ifB_t (by simp only [stdOps, decide_eq_true_eq]; omega), if_pos h3, ← he]; exact hkeep
        · rw [ifB_f (by simp only [stdOps, decide_eq_false_iff_not]; omega), if_neg h3, req_eq _ mok_e]
          have hnn : name ∉ ns := fun e => h2 (hmem.1 e)
          have hlen : stdOps.len (fs.map fav) = ((fs.length : Nat) : Int) := by simp [stdOps]
          obtain ⟨κ', hκ'⟩ : ∃ κ' : ByteArray → Nat, κ' = fun x => if x = name then fs.length else κ x := ⟨_, rfl⟩
          have hk1 : κ' name = fs.length := by simp [hκ']
          have hk2 : ∀ a, a ∈ m.names → κ' a = κ a := fun a ha => by
            have : a ≠ name := fun e => h2 (e ▸ ha)
            simp [hκ', this]
          rw [hlen, put_e hnn]
          refine ⟨fs ++ [[]], κ', (ns ++ [name]).map (eav κ'), ?_, ?_, ?_⟩
          · congr 2
            · simp [stdOps, fav]
            · rw [List.map_append]
              congr 1
              · exact List.map_congr_left fun x hx => by unfold eav; rw [hk2 x (hp.mem_iff.1 hx)]
              · simp [eav, hk1]
          · refine ⟨h.lo0, h.len, h.cap, ?_, ⟨_, rfl, ?_⟩, ?_, ?_⟩
            · obtain ⟨rest, hr⟩ := h.row
              refine ⟨rest, ?_⟩
              rw [hr]
              congr 1
              exact List.map_congr_left fun p hp' => by unfold pav; rw [hk2 _ (hI.pn p hp')]
            · refine List.Perm.trans ?_ names_ins.symm
              exact (List.perm_append_comm.trans (List.Perm.refl _)).trans (List.Perm.cons _ hp)
            · intro a ha b hb e
              have ha' : a = name ∨ a ∈ m.names := mem_names_ins.1 ha
              have hb' : b = name ∨ b ∈ m.names := mem_names_ins.1 hb
              rcases ha' with rfl | ha' <;> rcases hb' with rfl | hb'
              · rfl
              · rw [hk1, hk2 _ hb'] at e
                have := h.lt hb'; omega
              · rw [hk1, hk2 _ ha'] at e
                have := h.lt ha'; omega
              · rw [hk2 _ ha', hk2 _ hb'] at e
                exact h.inj _ ha' _ hb' e
            · intro x hx
              rcases mem_insL.1 hx with rfl | hx
              · simp only [hk1]; simp
              · have hm : x.1 ∈ m.names := List.mem_map_of_mem hx
                rw [hk2 _ hm, List.getElem?_append_left (h.lt hm)]
                exact h.get x hx
          · refine ⟨by simp, fun k hk _ => by rw [List.getElem?_append_left hk], fun k hk => ?_⟩
            obtain ⟨a, ha, rfl⟩ := hk
            have ha' : a = name ∨ a ∈ m.names := mem_names_ins.1 ha
            rcases ha' with rfl | ha'
            · exact .inr (by rw [hk1]; exact Nat.le_refl _)
            · exact .inl ⟨a, ha', (hk2 a ha').symm⟩
theorem f138_is {fuel : Nat} {a b : Int} {c A : List AV} {k : Int} : f138 stdOps fuel a b c A k = some (.v0 (decide (a = k))) := by
  unfold f138; rw [eql_is]
def keepB (κ : ByteArray → Nat) (k : Nat) (P : List Pw) : List Pw := P.filter fun p => decide (κ p.n ≠ k)
theorem keep_drop (hI : Iv m) (h : Rs fs κ m lo n N es row) {name : ByteArray} (hn : name ∈ m.names) : keepB κ (κ name) m.P = dropP name m.P := by
  unfold keepB dropP
  refine List.filter_congr fun p hp => ?_
  by_cases e : p.n = name
  · simp [e]
  · have : κ p.n ≠ κ name := fun e2 => e (h.inj _ (hI.pn p hp) _ hn e2)
    simp [e, this]
theorem get_row {row : List AV} {i : Nat} {v : AV} (h : row[i]? = some v) : stdOps.get row (stdOps.sum 0 (i : Int)) = some v ∧ stdOps.inb (stdOps.sum 0 (i : Int)) (stdOps.len row) := by
  have hl := (List.getElem?_eq_some_iff.1 h).1
  refine ⟨?_, ?_⟩
  · show row[((0 : Int) + i).toNat]? = _
    rw [show ((0 : Int) + i).toNat = i by omega]; exact h
  · show (0 : Int) ≤ 0 + i ∧ (0 : Int) + i < (row.length : Int)
    omega
theorem f157_l0_is {k : Nat} {A : List AV} {fuel : Nat} {a2 : Int} {tl : List AV} {P : List Pw} (hP : P.length < 2 ^ 42) : ∀ (rest pre : List Pw) (f : Nat), P = pre ++ rest → rest.length < f → (∀ p ∈ pre, κ p.n ≠ k) →
    ((keepB κ k P = P ∧ f157_l0 stdOps fuel P.length 0 (P.map (pav κ) ++ tl) A k a2 f pre.length = some .x1) ∨
      ∃ a p b, P = a ++ p :: b ∧ (∀ p ∈ a, κ p.n ≠ k) ∧ κ p.n = k ∧ f157_l0 stdOps fuel P.length 0 (P.map (pav κ) ++ tl) A k a2 f pre.length = some (.x0 (a.length : Int)))
  | [], pre, f + 1, hp, hf, ha => by
    refine .inl ⟨?_, ?_⟩
    · unfold keepB
      rw [hp, List.append_nil, List.filter_eq_self]
      exact fun p hp => by simp [ha p hp]
    · rw [f157_l0]
      exact ifB_is_f (lss_f (by rw [hp]; simp)) rfl
  | p :: rest, pre, f + 1, hp, hf, ha => by
    have hi : pre.length < P.length := by rw [hp]; simp
    have hg : (P.map (pav κ) ++ tl)[pre.length]? = some (pav κ p) := by rw [hp]; simp
    obtain ⟨g1, g2⟩ := get_row hg
    have hidx : stdOps.ar .add .i64 (pre.length : Int) 1 = ((pre ++ [p]).length : Int) := by rw [add1 (by omega)]; simp
    rw [f157_l0]
    by_cases e : κ p.n = k
    · refine .inr ⟨pre, p, rest, hp, ha, e, ?_⟩
      refine ifB_is_t (lss_t hi) <| req_is (show (0 : Int) ≤ pre.length ∧ (pre.length : Int) < P.length by omega) <| req_is g2 <| getA_is g1 ?_
      simp only [pav, sh150]
      exact bindR_is f138_is (ifB_is_t (by simp [e]) rfl)
    · have ih := f157_l0_is (k := k) (A := A) (fuel := fuel) (a2 := a2) (tl := tl) hP rest (pre ++ [p]) f (by simpa using hp) (by simp at hf; omega) (fun q hq => by
        rcases List.mem_append.1 hq with hq | hq
        · exact ha q hq
        · rw [List.mem_singleton.1 hq]; exact e)
      have step : ∀ {r}, f157_l0 stdOps fuel P.length 0 (P.map (pav κ) ++ tl) A k a2 f (pre ++ [p]).length = some r → ifB (stdOps.cmp .lss (pre.length : Int) (P.length : Int)) (req (stdOps.inb (pre.length : Int) (P.length : Int)) (req (stdOps.inb (stdOps.sum 0 (pre.length : Int)) (stdOps.len (P.map (pav κ) ++ tl)))
          (getA (stdOps.get (P.map (pav κ) ++ tl) (stdOps.sum 0 (pre.length : Int))) fun e => sh150 e fun v11 v12 v13 => bindR (f138 stdOps fuel v11 v12 v13 A k) fun r => match r with
            | .v0 r14 => ifB r14 (some (.x0 (pre.length : Int))) (f157_l0 stdOps fuel P.length 0 (P.map (pav κ) ++ tl) A k a2 f (stdOps.ar .add .i64 (pre.length : Int) 1))))) (some .x1) = some r := by
        intro r hr
        refine ifB_is_t (lss_t hi) <| req_is (show (0 : Int) ≤ pre.length ∧ (pre.length : Int) < P.length by omega) <| req_is g2 <| getA_is g1 ?_
        simp only [pav, sh150]
        refine bindR_is f138_is (ifB_is_f (by rw [decide_eq_false_iff_not]; omega) ?_)
        rw [hidx]; exact hr
      rcases ih with ⟨i1, i2⟩ | ⟨a, q, b, i1, i2, i3, i4⟩
      · exact .inl ⟨i1, step i2⟩
      · exact .inr ⟨a, q, b, i1, i2, i3, step i4⟩
theorem f137_l0_is {k : Nat} {A : List AV} {fuel T : Nat} {a2 : Int} {tl : List AV} (hT : T < 2 ^ 42) : ∀ (rest kp : List Pw) (mid : List AV) (f i : Nat) (rw0 : List AV), rest.length < f → 0 < mid.length → i = kp.length + mid.length → T = i + rest.length →
    rw0 = kp.map (pav κ) ++ mid ++ rest.map (pav κ) ++ tl →
    ∃ mid', f137_l0 stdOps fuel T 0 A k a2 f kp.length i rw0 = some (.x0 ((kp ++ keepB κ k rest).length : Int) ((kp ++ keepB κ k rest).map (pav κ) ++ mid')) ∧
      ((kp ++ keepB κ k rest).map (pav κ) ++ mid').length = T + tl.length
  | [], kp, mid, f + 1, i, rw0, hf, hm, hi, ht, hr => by
    subst hr
    refine ⟨mid ++ tl, ?_, by simp [keepB] at ht ⊢; omega⟩
    rw [f137_l0]
    simp only [List.length_nil, Nat.add_zero] at ht
    refine ifB_is_f (lss_f (by omega)) ?_
    simp [keepB]
  | p :: rest, kp, mid, f + 1, i, rw0, hf, hm, hi, ht, hr => by
    obtain ⟨y, mid, rfl⟩ : ∃ y l, mid = y :: l := by cases mid with | nil => simp at hm | cons y l => exact ⟨y, l, rfl⟩
    have hg : rw0[i]? = some (pav κ p) := by
      rw [hr, hi, List.append_assoc, List.append_assoc, List.getElem?_append_right (by simp), List.getElem?_append_right (by simp)]
      simp
    obtain ⟨g1, g2⟩ := get_row hg
    simp only [List.length_cons] at hf ht hm hi
    have hidx : stdOps.ar .add .i64 (i : Int) 1 = ((i + 1 : Nat) : Int) := add1 (by omega)
    rw [f137_l0]
    by_cases e : κ p.n = k
    · obtain ⟨mid', ih, il⟩ := f137_l0_is (k := k) (A := A) (fuel := fuel) (a2 := a2) (tl := tl) hT rest kp (y :: mid ++ [pav κ p]) f (i + 1) rw0 (by omega) (by simp) (by simp; omega) (by omega) (by rw [hr]; simp)
      have hk : keepB κ k (p :: rest) = keepB κ k rest := by unfold keepB; rw [List.filter_cons_of_neg (by simp [e])]
      rw [hk]
      refine ⟨mid', ?_, il⟩
      refine ifB_is_t (lss_t (by omega)) <| req_is (show (0 : Int) ≤ i ∧ (i : Int) < T by omega) <| req_is g2 <| getA_is g1 ?_
      simp only [pav, sh150]
      refine bindR_is f138_is (ifB_is_f (by rw [decide_eq_true (by omega : (κ p.n : Int) = k)]; rfl) ?_)
      rw [hidx]; exact ih
    · have hk : keepB κ k (p :: rest) = p :: keepB κ k rest := by unfold keepB; rw [List.filter_cons_of_pos (by simp [e])]
      have hkl : kp ++ keepB κ k (p :: rest) = (kp ++ [p]) ++ keepB κ k rest := by rw [hk]; simp
      obtain ⟨mid', ih, il⟩ := f137_l0_is (k := k) (A := A) (fuel := fuel) (a2 := a2) (tl := tl) hT rest (kp ++ [p]) (mid ++ [pav κ p]) f (i + 1) (rw0.set kp.length (pav κ p)) (by omega) (by simp) (by simp; omega) (by omega) (by
        rw [hr, List.append_assoc, List.append_assoc, List.set_append_right _ _ (by simp)]
        simp)
      rw [hkl]
      refine ⟨mid', ?_, il⟩
      have hlen : rw0.length = T + tl.length := by rw [hr]; simp; omega
      refine ifB_is_t (lss_t (by omega)) <| req_is (show (0 : Int) ≤ i ∧ (i : Int) < T by omega) <| req_is g2 <| getA_is g1 ?_
      simp only [pav, sh150]
      refine bindR_is f138_is (ifB_is_t (by rw [decide_eq_false (by omega : ¬ (κ p.n : Int) = k)]; rfl) ?_)
      refine req_is (show (0 : Int) ≤ kp.length ∧ (kp.length : Int) < T by omega) <| req_is (show (0 : Int) ≤ 0 + (kp.length : Int) ∧ 0 + (kp.length : Int) < (rw0.length : Int) by omega) ?_
      have hkp : stdOps.ar .add .i64 (kp.length : Int) 1 = ((kp ++ [p]).length : Int) := by rw [add1 (by omega)]; simp
      have hu : stdOps.upd rw0 (stdOps.sum 0 (kp.length : Int)) (.agg [.fp 0 (κ p.n) 0, .int .i64 p.i, .sl 1 p.b .no]) = rw0.set kp.length (pav κ p) := by
        show rw0.set ((0 : Int) + kp.length).toNat _ = _
        rw [show ((0 : Int) + kp.length).toNat = kp.length by omega]; rfl
      rw [hidx, hkp, hu]
      exact ih
theorem f94_is (hI : Iv m) (h : Rs fs κ m lo n N es row) (hP : m.P.length < 2 ^ 42) {name : ByteArray} (hn : name ∈ m.names) {fuel : Nat} (hf : m.P.length < fuel) {A : List AV} {most : Int} {down : Bool} :
    ∃ n' row', f94 stdOps fuel (κ name) A most lo n N down es row = some (.v0 lo n' N row') ∧ n' = (dropP name m.P).length ∧ n' ≤ N ∧ ∃ rest, row' = (dropP name m.P).map (pav κ) ++ rest := by
  obtain ⟨tl, hr⟩ := h.row
  have hl := h.lo0
  have hc := h.cap
  have hnn := h.len
  subst hl hr hnn
  unfold f94 f137
  rcases f157_l0_is (κ := κ) (k := κ name) (A := A) (fuel := fuel) (a2 := N) (tl := tl) hP m.P [] fuel rfl hf (by simp) with ⟨i1, i2⟩ | ⟨a, p, b, i1, i2, i3, i4⟩
  · have h157 : f157 stdOps fuel 0 m.P.length N A (m.P.map (pav κ) ++ tl) (κ name) = some (.v0 (-1)) := by
      unfold f157
      exact bindR_is i2 rfl
    refine ⟨m.P.length, m.P.map (pav κ) ++ tl, bindR_is (bindR_is h157 (ifB_is_t rfl rfl)) rfl, ?_⟩
    rw [← keep_drop hI h hn, i1]
    exact ⟨rfl, hc, tl, rfl⟩
  · have h157 : f157 stdOps fuel 0 m.P.length N A (m.P.map (pav κ) ++ tl) (κ name) = some (.v0 (a.length : Int)) := by
      unfold f157
      exact bindR_is i4 rfl
    have hpl : m.P.length = a.length + 1 + b.length := by rw [i1]; simp; omega
    obtain ⟨mid', q1, q2⟩ := f137_l0_is (κ := κ) (k := κ name) (A := A) (fuel := fuel) (T := m.P.length) (a2 := N) (tl := tl) hP b a [pav κ p] fuel (a.length + 1) (m.P.map (pav κ) ++ tl) (by omega) (by simp) (by simp) (by omega) (by rw [i1]; simp)
    have hkd : a ++ keepB κ (κ name) b = dropP name m.P := by
      rw [← keep_drop hI h hn, i1]
      unfold keepB
      rw [List.filter_append, List.filter_cons_of_neg (by simp [i3]), (List.filter_eq_self (l := a)).2 fun q hq => by simp [i2 q hq]]
    rw [hkd] at q1 q2
    have hdl : (dropP name m.P).length ≤ m.P.length := List.length_filter_le _ _
    have hidx : stdOps.ar .add .i64 (a.length : Int) 1 = ((a.length + 1 : Nat) : Int) := add1 (by omega)
    obtain ⟨d, hd⟩ : ∃ d, d = dropP name m.P := ⟨_, rfl⟩
    rw [← hd] at q1 q2 hdl ⊢
    obtain ⟨z, hz⟩ : ∃ z, z = stdOps.lay (d.map (pav κ) ++ mid') (stdOps.sum 0 (d.length : Int)) (stdOps.rep (stdOps.dif (m.P.length : Int) (d.length : Int)) (.agg [.nilp, .int .i64 0, .nils])) := ⟨_, rfl⟩
    refine ⟨(d.length : Int), z, bindR_is (v := F137R.v0 0 (d.length : Int) N z) (bindR_is h157 (ifB_is_f (by rw [eql_is, decide_eq_false_iff_not]; omega) ?_)) rfl, rfl, by omega, ?_⟩
    · rw [hidx]
      refine bindR_is q1 ?_
      simp only
      refine req_is (show (0 : Int) ≤ d.length by omega) <| req_is (show (d.length : Int) ≤ m.P.length by omega) <| req_is (show (0 : Int) ≤ 0 + (d.length : Int) by omega) <| req_is (show (0 : Int) ≤ (m.P.length : Int) - d.length by omega) <|
        req_is (show (0 : Int) + d.length + ((m.P.length : Int) - d.length) ≤ ((d.map (pav κ) ++ mid').length : Int) by omega) <| req_is (show (0 : Int) ≤ d.length by omega) <| req_is (show (0 : Int) + (d.length : Int) ≤ N by omega) (by rw [hz])
    · have hlay : ∀ Y : List AV, stdOps.lay (d.map (pav κ) ++ mid') (stdOps.sum 0 (d.length : Int)) Y = d.map (pav κ) ++ Y ++ (d.map (pav κ) ++ mid').drop ((stdOps.sum 0 (d.length : Int)).toNat + Y.length) := by
        intro Y
        show (d.map (pav κ) ++ mid').take (stdOps.sum 0 (d.length : Int)).toNat ++ Y ++ _ = _
        congr 2
        rw [show (stdOps.sum 0 (d.length : Int)).toNat = (d.map (pav κ)).length by simp [stdOps], List.take_left]
      rw [hz, hlay, List.append_assoc]
      exact ⟨_, rfl⟩
theorem Mo.all_eq {name : ByteArray} : m.all name = seen m.P name (m.sure name) := rfl
theorem f93_at (hI : Iv m) (h : Rs fs κ m lo n N es row) (hP : m.P.length < 2 ^ 42) {name : ByteArray} (hn : name ∈ m.names) {fuel : Nat} {most : Int} {down : Bool} (hf : m.P.length < fuel) :
    f93_1 stdOps fuel (κ name) (fs.map fav) most lo n N down es row = some (.v0 (m.all name)) := f93_is hI h hP (Mo.mem_sure hI.nodup hn) hf
theorem f34_is (hI : Iv m) (h : Rs fs κ m lo n N es row) (hP : (m.P.length + 1) * 40 ≤ 2 ^ 47) {name : ByteArray} {i : Int} {b : List AV} (hb : b.length ≤ 2 ^ 47) {fuel : Nat} (hf : m.P.length < fuel) (hf2 : 5000 < fuel) :
    ∃ lo' n' N' row', f34 stdOps fuel name i b (fs.map fav) m.most lo n N m.down es row = some (.v0 (m.write name i b).1 lo' n' N' es row') ∧ Rs fs κ (m.write name i b).2 lo' n' N' es row' := by
  have hP' : m.P.length < 2 ^ 42 := by omega
  unfold f34 Mo.write
  rw [bindR_eq (f92_is h)]
  rcases fnd_find (κ := κ) (m := m) name with ⟨h0, hd, hm, hv⟩ | ⟨h0, hv⟩
  · rw [hv, if_neg (by simpa using h0)]
    simp only
    rw [ifB_f bnot_eq, bindR_eq (f93_at hI h hP' hm hf)]
    have hal := hI.all_le hm
    simp only
    have hsub : stdOps.ar .sub .i64 (stdOps.len (m.all name)) i = ((m.all name).length : Int) - i ∨ i < 0 ∨ ((m.all name).length : Int) < i := by
      by_cases hx : i < 0 ∨ ((m.all name).length : Int) < i
      · exact .inr hx
      · exact .inl (wr_i64 (by rw [len_is]; omega) (by rw [len_is]; omega))
    by_cases h1 : i < 0 ∨ ((m.all name).length : Int) < i
    · rw [if_pos h1]
      refine ⟨lo, n, N, row, ifB_is_t ?_ rfl, h⟩
      simp only [stdOps]
      rcases h1 with h1 | h1 <;> simp [h1]
    · rw [if_neg h1]
      have hsub := hsub.resolve_right h1
      have hsub2 : stdOps.ar .sub .i64 (stdOps.len b) (((m.all name).length : Int) - i) = (b.length : Int) - ((m.all name).length - i) := wr_i64 (by rw [len_is]; omega) (by rw [len_is]; omega)
      have hg : stdOps.pick (stdOps.cmp .lss i 0) true (stdOps.cmp .gtr i (stdOps.len (m.all name))) = false := by
        simp only [stdOps]
        have h2 : ¬ i < 0 := fun e => h1 (.inl e)
        have h3 : ¬ i > ((m.all name).length : Int) := fun e => h1 (.inr e)
        simp [h2, h3]
      rw [ifB_f hg, bindR_eq (f52_is hI h hP' hf hf2)]
      simp only
      rw [hsub, hsub2]
      by_cases h4 : m.left < (b.length : Int) - ((m.all name).length - i)
      · rw [if_pos h4]
        exact ⟨lo, n, N, row, ifB_is_t (by simp only [stdOps, decide_eq_true_eq]; omega) rfl, h⟩
      · rw [if_neg h4, ifB_f (by simp only [stdOps, decide_eq_false_iff_not]; omega)]
        by_cases h5 : b = []
        · rw [if_pos h5]
          exact ⟨lo, n, N, row, ifB_is_f (by subst h5; rfl) rfl, h⟩
        · rw [if_neg h5]
          have hbl : 0 < b.length := List.length_pos_iff.2 h5
          have hm1 := hI.m1
          have hle : m.left ≤ m.most := by unfold Mo.left; omega
          obtain ⟨rest, hr⟩ := h.row
          have hlo := h.lo0
          have hn := h.len
          have hcap := h.cap
          have htake : stdOps.sub row 0 n = m.P.map (pav κ) := by
            show (row.take n.toNat).drop (0 : Int).toNat = _
            rw [hr, hn, show ((m.P.length : Nat) : Int).toNat = (m.P.map (pav κ)).length by simp, List.take_left]; rfl
          have hrl : n ≤ (row.length : Int) := by rw [hr, hn]; simp; omega
          refine ⟨0, _, _, _, ifB_is_t (by simp only [stdOps, decide_eq_true_eq]; omega) (bindR_is (f95_is (by omega)) (req_is (show lo = 0 from hlo) <| req_is (show (0 : Int) ≤ n by omega) <| req_is (show n ≤ (row.length : Int) from hrl) <| req_is ?_ rfl)), ?_⟩
          · rw [htake]
            show ((m.P.map (pav κ)).length + 1) * 40 ≤ 2 ^ 47
            simpa using hP
          · rw [htake]
            refine ⟨rfl, ?_, Int.le_refl _, ⟨[], ?_⟩, h.es, h.inj, h.get⟩
            · show ((m.P.map (pav κ) ++ [_]).length : Int) = ((m.P ++ [_]).length : Int)
              simp
            · show m.P.map (pav κ) ++ [_] = _
              simp [pav]
  · rw [hv, if_pos h0]
    exact ⟨lo, n, N, row, ifB_is_t (bnot_ne h0) rfl, h⟩
theorem mem_setL {name : ByteArray} {b : List AV} {L : List (ByteArray × List AV)} {x : ByteArray × List AV} (h : x ∈ setL name b L) : (x.1 = name ∧ x.2 = b ∧ name ∈ L.map Prod.fst) ∨ (x.1 ≠ name ∧ x ∈ L) := by
  unfold setL at h
  obtain ⟨y, hy, rfl⟩ := List.mem_map.1 h
  by_cases e : y.1 = name
  · rw [if_pos e]; exact .inl ⟨e, rfl, e ▸ List.mem_map_of_mem hy⟩
  · rw [if_neg e]; exact .inr ⟨e, hy⟩
theorem set_fs {k : Nat} {b : List AV} : stdOps.upd (fs.map fav) (k : Int) (.agg [.sl 1 b .no]) = (fs.set k b).map fav := by
  show (fs.map fav).set ((k : Nat) : Int).toNat (fav b) = _
  rw [show ((k : Nat) : Int).toNat = k by omega, List.map_set]
theorem Rs.set (_hI : Iv m) (h : Rs fs κ m lo n N es row) {name : ByteArray} (hn : name ∈ m.names) {b : List AV} {n' : Int} {row' : List AV} (h1 : n' = (dropP name m.P).length) (h2 : n' ≤ N) (h3 : ∃ rest, row' = (dropP name m.P).map (pav κ) ++ rest) :
    Rs (fs.set (κ name) b) κ ⟨setL name b m.L, dropP name m.P, m.most, m.down⟩ lo n' N es row' ∧ Fr fs (fs.set (κ name) b) κ κ m ⟨setL name b m.L, dropP name m.P, m.most, m.down⟩ := by
  have hnames : Mo.names ⟨setL name b m.L, dropP name m.P, m.most, m.down⟩ = m.names := names_set
  refine ⟨⟨h.lo0, h1, h2, h3, ?_, ?_, ?_⟩, by simp, ?_, ?_⟩
  · rw [hnames]; exact h.es
  · rw [hnames]; exact h.inj
  · intro x hx
    rcases mem_setL hx with ⟨e1, e2, _⟩ | ⟨e1, hx⟩
    · rw [e1, e2, List.getElem?_set_self (h.lt hn)]
    · rw [List.getElem?_set_ne (fun e => e1 (h.inj _ (List.mem_map_of_mem hx) _ hn e.symm))]
      exact h.get x hx
  · intro k _ hk
    rw [List.getElem?_set_ne fun e => hk ⟨name, hn, e⟩]
  · rintro k ⟨a, ha, e⟩
    rw [hnames] at ha
    exact .inl ⟨a, ha, e⟩
theorem f33_is (hI : Iv m) (h : Rs fs κ m lo n N es row) (hP : m.P.length < 2 ^ 42) {name : ByteArray} {fuel : Nat} (hf : m.P.length < fuel) {most : Int} :
    ∃ fs' lo' n' N' row', f33 stdOps fuel name (fs.map fav) most lo n N m.down es row = some (.v0 (m.sync name).1 (fs'.map fav) lo' n' N' row') ∧ Rs fs' κ (m.sync name).2 lo' n' N' es row' ∧ Fr fs fs' κ κ m (m.sync name).2 := by
  unfold f33 Mo.sync
  rw [bindR_eq (f92_is h)]
  rcases fnd_find (κ := κ) (m := m) name with ⟨h0, hd, hm, hv⟩ | ⟨h0, hv⟩
  · rw [hv, if_neg (by simpa using h0)]
    simp only
    rw [ifB_f bnot_eq, bindR_eq (f93_at hI h hP hm hf)]
    obtain ⟨g1, g2⟩ := h.fget (Mo.mem_sure hI.nodup hm)
    obtain ⟨n', row', q1, q2, q3, q4⟩ := f94_is hI h hP hm hf (A := (fs.set (κ name) (m.all name)).map fav) (most := most) (down := m.down)
    have hs := Rs.set hI h hm (b := m.all name) q2 q3 q4
    refine ⟨fs.set (κ name) (m.all name), lo, n', N, row', ?_, hs⟩
    refine req_is g2 <| getA_is g1 ?_
    simp only [fav, sh147]
    rw [set_fs]
    exact bindR_is q1 rfl
  · rw [hv, if_pos h0]
    exact ⟨fs, lo, n, N, row, ifB_is_t (bnot_ne h0) rfl, h, .rfl' fun _ h => h⟩
theorem f64_is (hI : Iv m) (h : Rs fs κ m lo n N es row) (hP : m.P.length < 2 ^ 42) {name : ByteArray} {i : Int} {fuel : Nat} (hf : m.P.length < fuel) {most : Int} :
    ∃ fs' lo' n' N' row', f64 stdOps fuel name i (fs.map fav) most lo n N m.down es row = some (.v0 (m.cut name i).1 (fs'.map fav) lo' n' N' row') ∧ Rs fs' κ (m.cut name i).2 lo' n' N' es row' ∧ Fr fs fs' κ κ m (m.cut name i).2 := by
  unfold f64 Mo.cut
  rw [bindR_eq (f92_is h)]
  rcases fnd_find (κ := κ) (m := m) name with ⟨h0, hd, hm, hv⟩ | ⟨h0, hv⟩
  · rw [hv, if_neg (by simpa using h0)]
    simp only
    rw [ifB_f bnot_eq, bindR_eq (f93_at hI h hP hm hf)]
    by_cases h1 : i < 0 ∨ ((m.all name).length : Int) < i
    · rw [if_pos h1]
      refine ⟨fs, lo, n, N, row, ifB_is_t ?_ rfl, h, .rfl' fun _ h => h⟩
      simp only [stdOps]
      rcases h1 with h1 | h1 <;> simp [h1]
    · rw [if_neg h1]
      have h2 : ¬ i < 0 := fun e => h1 (.inl e)
      have h3 : ¬ i > ((m.all name).length : Int) := fun e => h1 (.inr e)
      have hg : stdOps.pick (stdOps.cmp .lss i 0) true (stdOps.cmp .gtr i (stdOps.len (m.all name))) = false := by
        simp only [stdOps]
        simp [h2, h3]
      obtain ⟨g1, g2⟩ := h.fget (Mo.mem_sure hI.nodup hm)
      obtain ⟨n', row', q1, q2, q3, q4⟩ := f94_is hI h hP hm hf (A := (fs.set (κ name) ((m.all name).take i.toNat)).map fav) (most := most) (down := m.down)
      have hs := Rs.set hI h hm (b := (m.all name).take i.toNat) q2 q3 q4
      refine ⟨fs.set (κ name) ((m.all name).take i.toNat), lo, n', N, row', ?_, hs⟩
      refine ifB_is_f hg <| req_is (show (0 : Int) ≤ i by omega) <| req_is (Int.le_refl i) <| req_is (show i ≤ ((m.all name).length : Int) by omega) <| req_is g2 <| getA_is g1 ?_
      simp only [fav, sh147]
      rw [show stdOps.sub (m.all name) 0 i = (m.all name).take i.toNat from rfl, set_fs]
      exact bindR_is q1 rfl
  · rw [hv, if_pos h0]
    exact ⟨fs, lo, n, N, row, ifB_is_t (bnot_ne h0) rfl, h, .rfl' fun _ h => h⟩
theorem names_outM {name : ByteArray} {P : List Pw} {a : ByteArray} : a ∈ Mo.names ⟨outL name m.L, P, m.most, m.down⟩ ↔ a ∈ m.names ∧ a ≠ name := by
  unfold Mo.names
  rw [names_out, List.mem_filter, decide_eq_true_eq]
theorem f66_is (hI : Iv m) (h : Rs fs κ m lo n N es row) (hP : m.P.length < 2 ^ 42) {name : ByteArray} {fuel : Nat} (hf : m.P.length < fuel) {most : Int} :
    ∃ lo' n' N' es' row', f66 stdOps fuel name (fs.map fav) most lo n N m.down es row = some (.v0 (m.remove name).1 lo' n' N' es' row') ∧ Rs fs κ (m.remove name).2 lo' n' N' es' row' := by
  obtain ⟨ns, he, hp⟩ := h.es
  unfold f66 Mo.remove
  rw [bindR_eq (f92_is h)]
  rcases fnd_find (κ := κ) (m := m) name with ⟨h0, hd, hm, hv⟩ | ⟨h0, hv⟩
  · rw [hv, if_neg (by simpa using h0)]
    simp only
    rw [ifB_f bnot_eq]
    obtain ⟨n', row', q1, q2, q3, q4⟩ := f94_is hI h hP hm hf (A := fs.map fav) (most := most) (down := m.down)
    refine ⟨lo, n', N, (ns.erase name).map (eav κ), row', bindR_is q1 (req_is (by rw [he]; exact mok_e) (by rw [he, del_e])), h.lo0, q2, q3, q4, ⟨_, rfl, ?_⟩, ?_, ?_⟩
    · have hnd : ns.Nodup := hp.nodup_iff.2 hI.nodup
      unfold Mo.names
      rw [names_out, hnd.erase_eq_filter]
      refine (hp.filter _).trans ?_
      refine List.Perm.of_eq (List.filter_congr fun x _ => ?_)
      by_cases e : x = name <;> simp [e]
    · intro a ha b hb
      exact h.inj a (names_outM.1 ha).1 b (names_outM.1 hb).1
    · intro x hx
      exact h.get x (List.mem_filter.1 hx).1
  · rw [hv, if_pos h0]
    exact ⟨lo, n, N, es, row, ifB_is_t (bnot_ne h0) rfl, h⟩
end
end Go.Proofs.Ytjdbmfipciadfaa.A
