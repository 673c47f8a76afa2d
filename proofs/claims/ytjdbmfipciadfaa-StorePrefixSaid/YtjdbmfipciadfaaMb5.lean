/- Stores: what each call does, on plain lists; the program's calls that change its store. -/import Derived.Test.YtjdbmfipciadfaaMb4
namespace Go.Proofs.Ytjdbmfipciadfaa.A
open Go Go.Pt
def insL (n : ByteArray) (b : List AV) (L : List (ByteArray × List AV)) : List (ByteArray × List AV) :=
  L.takeWhile (fun x => decide (bl x.1 < bl n)) ++ (n, b) :: L.dropWhile (fun x => decide (bl x.1 < bl n))
def setL (n : ByteArray) (b : List AV) (L : List (ByteArray × List AV)) : List (ByteArray × List AV) := L.map fun x => if x.1 = n then (x.1, b) else x
def outL (n : ByteArray) (L : List (ByteArray × List AV)) : List (ByteArray × List AV) := L.filter fun x => decide (x.1 ≠ n)
def dropP (n : ByteArray) (P : List Pw) : List Pw := P.filter fun p => decide (p.n ≠ n)
def renP (n to : ByteArray) (P : List Pw) : List Pw := P.map fun p => if p.n = n then ⟨to, p.i, p.b⟩ else p
def emp0 : ByteArray := ⟨#[]⟩
def Mo.fnd (m : Mo) (n : ByteArray) : Int := if m.down then 32 else if n ∈ m.names then 0 else 4
def Mo.create (m : Mo) (n : ByteArray) : Int × Mo :=
  if m.down then (32, m) else if n = emp0 ∨ n ∈ m.names then (31, m) else if 4096 ≤ m.L.length then (6, m) else (0, ⟨insL n [] m.L, m.P, m.most, m.down⟩)
def Mo.write (m : Mo) (n : ByteArray) (i : Int) (b : List AV) : Int × Mo :=
  if m.fnd n ≠ 0 then (m.fnd n, m) else if i < 0 ∨ ((m.all n).length : Int) < i then (33, m)
  else if m.left < (b.length : Int) - ((m.all n).length - i) then (30, m) else if b = [] then (0, m) else (0, ⟨m.L, m.P ++ [⟨n, i, b⟩], m.most, m.down⟩)
def Mo.sync (m : Mo) (n : ByteArray) : Int × Mo :=
  if m.fnd n ≠ 0 then (m.fnd n, m) else (0, ⟨setL n (m.all n) m.L, dropP n m.P, m.most, m.down⟩)
def Mo.cut (m : Mo) (n : ByteArray) (i : Int) : Int × Mo :=
  if m.fnd n ≠ 0 then (m.fnd n, m) else if i < 0 ∨ ((m.all n).length : Int) < i then (33, m) else (0, ⟨setL n ((m.all n).take i.toNat) m.L, dropP n m.P, m.most, m.down⟩)
def Mo.remove (m : Mo) (n : ByteArray) : Int × Mo :=
  if m.fnd n ≠ 0 then (m.fnd n, m) else (0, ⟨outL n m.L, dropP n m.P, m.most, m.down⟩)
def Mo.rename (m : Mo) (n to : ByteArray) : Int × Mo :=
  if m.fnd n ≠ 0 then (m.fnd n, m) else if to = emp0 then (31, m) else if to = n then (0, m)
  else (0, ⟨insL to (m.sure n) (outL n (outL to m.L)), renP n to (dropP to m.P), m.most, m.down⟩)
def bare (n : Int) : Nat := if n = -9223372036854775808 then 0 else n.natAbs
def kept (P : List Pw) (keep torn : Int) : List Pw :=
  P.take (bare keep % (P.length + 1)) ++ (match P[bare keep % (P.length + 1)]? with
    | some p => [⟨p.n, p.i, p.b.take (bare torn % (p.b.length + 1))⟩]
    | none => [])
def Mo.crash (m : Mo) (keep torn : Int) : Int × Mo :=
  if m.down then (32, m) else (0, ⟨m.L.map fun x => (x.1, seen (kept m.P keep torn) x.1 x.2), [], m.most, true⟩)
def Mo.start (m : Mo) : Int × Mo := if m.down then (0, ⟨m.L, m.P, m.most, false⟩) else (1, m)
theorem insL_perm (n : ByteArray) (b : List AV) (L : List (ByteArray × List AV)) : (insL n b L).Perm ((n, b) :: L) := by
  unfold insL
  refine List.perm_middle.trans ?_
  rw [List.takeWhile_append_dropWhile]
theorem mem_insL {n : ByteArray} {b : List AV} {L : List (ByteArray × List AV)} {x : ByteArray × List AV} : x ∈ insL n b L ↔ x = (n, b) ∨ x ∈ L := by
  rw [(insL_perm n b L).mem_iff, List.mem_cons]
theorem names_ins {n : ByteArray} {b : List AV} {L : List (ByteArray × List AV)} : ((insL n b L).map Prod.fst).Perm (n :: L.map Prod.fst) := (insL_perm n b L).map _
theorem mem_names_ins {n a : ByteArray} {b : List AV} {L : List (ByteArray × List AV)} : a ∈ (insL n b L).map Prod.fst ↔ a = n ∨ a ∈ L.map Prod.fst := by
  rw [names_ins.mem_iff, List.mem_cons]
theorem names_set {n : ByteArray} {b : List AV} {L : List (ByteArray × List AV)} : (setL n b L).map Prod.fst = L.map Prod.fst := by
  unfold setL
  rw [List.map_map]
  refine List.map_congr_left fun x _ => ?_
  show (if x.1 = n then (x.1, b) else x).1 = x.1
  split <;> rfl
theorem names_out {n : ByteArray} {L : List (ByteArray × List AV)} : (outL n L).map Prod.fst = (L.map Prod.fst).filter fun a => decide (a ≠ n) := by
  unfold outL
  rw [List.filter_map]; rfl
def Ids (κ : ByteArray → Nat) (m : Mo) (k : Nat) : Prop := ∃ a ∈ m.names, κ a = k
structure Fr (fs fs' : List (List AV)) (κ κ' : ByteArray → Nat) (m m' : Mo) : Prop where
  len : fs.length ≤ fs'.length
  old : ∀ k, k < fs.length → ¬ Ids κ m k → fs'[k]? = fs[k]?
  new : ∀ k, Ids κ' m' k → Ids κ m k ∨ fs.length ≤ k
theorem Fr.rfl' {fs : List (List AV)} {κ : ByteArray → Nat} {m m' : Mo} (h : ∀ a ∈ m'.names, a ∈ m.names) : Fr fs fs κ κ m m' :=
  ⟨Nat.le_refl _, fun _ _ _ => rfl, fun _ ⟨a, ha, e⟩ => .inl ⟨a, h a ha, e⟩⟩
theorem Fr.trans {fs fs1 fs2 : List (List AV)} {κ κ1 κ2 : ByteArray → Nat} {m m1 m2 : Mo} (h : Fr fs fs1 κ κ1 m m1) (h' : Fr fs1 fs2 κ1 κ2 m1 m2) : Fr fs fs2 κ κ2 m m2 := by
  refine ⟨Nat.le_trans h.len h'.len, fun k hk hn => ?_, fun k hk => ?_⟩
  · have hl := h.len
    rw [h'.old k (by omega) fun hi => ?_, h.old k hk hn]
    rcases h.new k hi with h1 | h1
    · exact hn h1
    · omega
  · rcases h'.new k hk with h1 | h1
    · exact h.new k h1
    · have := h.len
      exact .inr (by omega)
theorem Rs.frame {fs fs' : List (List AV)} {κ κ1 κ2 : ByteArray → Nat} {m m1 m2 : Mo} {lo n N : Int} {es : List (AV × AV)} {row : List AV} (h : Rs fs κ m lo n N es row) (hf : Fr fs fs' κ1 κ2 m1 m2)
    (hd : ∀ k, Ids κ m k → ¬ Ids κ1 m1 k) : Rs fs' κ m lo n N es row :=
  ⟨h.lo0, h.len, h.cap, h.row, h.es, h.inj, fun x hx => by
    have hg := h.get x hx
    rw [hf.old _ (List.getElem?_eq_some_iff.1 hg).1 (hd _ ⟨x.1, List.mem_map_of_mem hx, rfl⟩)]
    exact hg⟩
section
variable {fs : List (List AV)} {κ : ByteArray → Nat} {m : Mo} {lo n N : Int} {es : List (AV × AV)} {row : List AV}
theorem Rs.lt (h : Rs fs κ m lo n N es row) {a : ByteArray} (ha : a ∈ m.names) : κ a < fs.length := by
  obtain ⟨x, hx, rfl⟩ := List.mem_map.1 ha
  exact (List.getElem?_eq_some_iff.1 (h.get x hx)).1
theorem fnd_find (name : ByteArray) : (m.fnd name = 0 ∧ m.down = false ∧ name ∈ m.names ∧ findV κ m name = .v1 (κ name)) ∨ (m.fnd name ≠ 0 ∧ findV κ m name = .v0 (m.fnd name)) := by
  unfold Mo.fnd findV
  cases m.down with
  | true => exact .inr ⟨by simp, rfl⟩
  | false =>
    by_cases h : name ∈ m.names
    · exact .inl ⟨by simp [h], rfl, h, by simp [h]⟩
    · exact .inr ⟨by simp [h], by simp [h]⟩
theorem bnot_ne {e : Int} (h : e ≠ 0) : stdOps.bnot (stdOps.cmp .eql e 0) = true := by rw [eql_is]; simp [stdOps, h]
theorem bnot_eq : stdOps.bnot (stdOps.cmp .eql 0 0) = false := rfl
theorem f63_is (hI : Iv m) (h : Rs fs κ m lo n N es row) {fuel : Nat} {most : Int} (name : ByteArray) :
    ∃ fs' κ' es', f63 stdOps fuel name (fs.map fav) most lo n N m.down es row = some (.v0 (m.create name).1 (fs'.map fav) es') ∧ Rs fs' κ' (m.create name).2 lo n N es' row ∧ Fr fs fs' κ κ' m (m.create name).2 := by
  obtain ⟨ns, he, hp⟩ := h.es
  unfold f63 Mo.create
  rw [bindR_eq f97_is]
  cases hd : m.down with
  | true =>
    refine ⟨fs, κ, es, rfl, h, .rfl' fun _ h => h⟩
  | false =>
    have hkeep : ∀ {e : Int}, ∃ fs' κ' es', (some (F63R.v0 e (fs.map fav) es) : Option F63R) = some (.v0 e (fs'.map fav) es') ∧ Rs fs' κ' m lo n N es' row ∧ Fr fs fs' κ κ' m m := ⟨fs, κ, es, rfl, h, .rfl' fun _ h => h⟩
    simp only [Bool.false_eq_true, if_false]
    rw [ifB_f bnot_eq, seq_is]
    have hmem : name ∈ ns ↔ name ∈ m.names := hp.mem_iff
    by_cases h1 : name = emp0
    · rw [ifB_t (by rw [h1]; rfl), if_pos (.inl h1)]; exact hkeep
    · rw [ifB_f (by rw [decide_eq_false_iff_not]; exact h1), he, findE]
      by_cases h2 : name ∈ m.names
      · rw [if_pos (hmem.2 h2), if_pos (.inr h2), ← he]; exact hkeep
      · rw [if_neg (fun e => h2 (hmem.1 e)), if_neg (fun e => e.elim h1 h2)]
        have hml : stdOps.mlen (ns.map (eav κ)) = (m.L.length : Int) := by
          show ((ns.map (eav κ)).length : Int) = _
          rw [List.length_map, hp.length_eq, Mo.names, List.length_map]
        rw [hml]
        by_cases h3 : 4096 ≤ m.L.length
        · rw [ifB_t (by simp only [stdOps, decide_eq_true_eq]; omega), if_pos h3, ← he]; exact hkeep
        · rw [ifB_f (by simp only [stdOps, decide_eq_false_iff_not]; omega), if_neg h3, req_eq _ mok_e]
          have hnn : name ∉ ns := fun e => h2 (hmem.1 e)
          have hlen : stdOps.len (fs.map fav) = ((fs.length : Nat) : Int) := by simp [stdOps]
          obtain ⟨κ', hκ'⟩ : ∃ κ' : ByteArray → Nat, κ' = fun x => if x = name then fs.length else κ x := ⟨_, rfl⟩
          have hk1 : κ' name = fs.length := by simp [hκ']
          have hk2 : ∀ a, a ∈ m.names → κ' a = κ a := fun a ha => by
            have : a ≠ name := fun e => h2 (e ▸ ha)
            simp [hκ', this]
          rw [hlen, put_e hnn]
          refine ⟨fs ++ [[]], κ', (ns ++ [name]).map (eav κ'), ?_, ?_, ?_⟩
          · congr 2
            · simp [stdOps, fav]
            · rw [List.map_append]
              congr 1
              · exact List.map_congr_left fun x hx => by unfold eav; rw [hk2 x (hp.mem_iff.1 hx)]
              · simp [eav, hk1]
          · refine ⟨h.lo0, h.len, h.cap, ?_, ⟨_, rfl, ?_⟩, ?_, ?_⟩
            · obtain ⟨rest, hr⟩ := h.row
              refine ⟨rest, ?_⟩
              rw [hr]
              congr 1
              exact List.map_congr_left fun p hp' => by unfold pav; rw [hk2 _ (hI.pn p hp')]
            · refine List.Perm.trans ?_ names_ins.symm
              exact (List.perm_append_comm.trans (List.Perm.refl _)).trans (List.Perm.cons _ hp)
            · intro a ha b hb e
              have ha' : a = name ∨ a ∈ m.names := mem_names_ins.1 ha
              have hb' : b = name ∨ b ∈ m.names := mem_names_ins.1 hb
              rcases ha' with rfl | ha' <;> rcases hb' with rfl | hb'
              · rfl
              · rw [hk1, hk2 _ hb'] at e
                have := h.lt hb'; omega
              · rw [hk1, hk2 _ ha'] at e
                have := h.lt ha'; omega
              · rw [hk2 _ ha', hk2 _ hb'] at e
                exact h.inj _ ha' _ hb' e
            · intro x hx
              rcases mem_insL.1 hx with rfl | hx
              · simp only [hk1]; simp
              · have hm : x.1 ∈ m.names := List.mem_map_of_mem hx
                rw [hk2 _ hm, List.getElem?_append_left (h.lt hm)]
                exact h.get x hx
          · refine ⟨by simp, fun k hk _ => by rw [List.getElem?_append_left hk], fun k hk => ?_⟩
            obtain ⟨a, ha, rfl⟩ := hk
            have ha' : a = name ∨ a ∈ m.names := mem_names_ins.1 ha
            rcases ha' with rfl | ha'
            · exact .inr (by rw [hk1]; exact Nat.le_refl _)
            · exact .inl ⟨a, ha', (hk2 a ha').symm⟩
theorem f138_is {fuel : Nat} {a b : Int} {c A : List AV} {k : Int} : f138 stdOps fuel a b c A k = some (.v0 (decide (a = k))) := by
  unfold f138; rw [eql_is]
def keepB (κ : ByteArray → Nat) (k : Nat) (P : List Pw) : List Pw := P.filter fun p => decide (κ p.n ≠ k)
theorem keep_drop (hI : Iv m) (h : Rs fs κ m lo n N es row) {name : ByteArray} (hn : name ∈ m.names) : keepB κ (κ name) m.P = dropP name m.P := by
  unfold keepB dropP
  refine List.filter_congr fun p hp => ?_
  by_cases e : p.n = name
  · simp [e]
  · have : κ p.n ≠ κ name := fun e2 => e (h.inj _ (hI.pn p hp) _ hn e2)
    simp [e, this]
theorem get_row {row : List AV} {i : Nat} {v : AV} (h : row[i]? = some v) : stdOps.get row (stdOps.sum 0 (i : Int)) = some v ∧ stdOps.inb (stdOps.sum 0 (i : Int)) (stdOps.len row) := by
  have hl := (List.getElem?_eq_some_iff.1 h).1
  refine ⟨?_, ?_⟩
  · show row[((0 : Int) + i).toNat]? = _
    rw [show ((0 : Int) + i).toNat = i by omega]; exact h
  · show (0 : Int) ≤ 0 + i ∧ (0 : Int) + i < (row.length : Int)
    omega
theorem f157_l0_is {k : Nat} {A : List AV} {fuel : Nat} {a2 : Int} {tl : List AV} {P : List Pw} (hP : P.length < 2 ^ 42) : ∀ (rest pre : List Pw) (f : Nat), P = pre ++ rest → rest.length < f → (∀ p ∈ pre, κ p.n ≠ k) →
    ((keepB κ k P = P ∧ f157_l0 stdOps fuel P.length 0 (P.map (pav κ) ++ tl) A k a2 f pre.length = some .x1) ∨
      ∃ a p b, P = a ++ p :: b ∧ (∀ p ∈ a, κ p.n ≠ k) ∧ κ p.n = k ∧ f157_l0 stdOps fuel P.length 0 (P.map (pav κ) ++ tl) A k a2 f pre.length = some (.x0 (a.length : Int)))
  | [], pre, f + 1, hp, hf, ha => by
    refine .inl ⟨?_, ?_⟩
    · unfold keepB
      rw [hp, List.append_nil, List.filter_eq_self]
      exact fun p hp => by simp [ha p hp]
    · rw [f157_l0]
      exact ifB_is_f (lss_f (by rw [hp]; simp)) rfl
  | p :: rest, pre, f + 1, hp, hf, ha => by
    have hi : pre.length < P.length := by rw [hp]; simp
    have hg : (P.map (pav κ) ++ tl)[pre.length]? = some (pav κ p) := by rw [hp]; simp
    obtain ⟨g1, g2⟩ := get_row hg
    have hidx : stdOps.ar .add .i64 (pre.length : Int) 1 = ((pre ++ [p]).length : Int) := by rw [add1 (by omega)]; simp
    rw [f157_l0]
    by_cases e : κ p.n = k
    · refine .inr ⟨pre, p, rest, hp, ha, e, ?_⟩
      refine ifB_is_t (lss_t hi) <| req_is (show (0 : Int) ≤ pre.length ∧ (pre.length : Int) < P.length by omega) <| req_is g2 <| getA_is g1 ?_
      simp only [pav, sh150]
      exact bindR_is f138_is (ifB_is_t (by simp [e]) rfl)
    · have ih := f157_l0_is (k := k) (A := A) (fuel := fuel) (a2 := a2) (tl := tl) hP rest (pre ++ [p]) f (by simpa using hp) (by simp at hf; omega) (fun q hq => by
        rcases List.mem_append.1 hq with hq | hq
        · exact ha q hq
        · rw [List.mem_singleton.1 hq]; exact e)
      have step : ∀ {r}, f157_l0 stdOps fuel P.length 0 (P.map (pav κ) ++ tl) A k a2 f (pre ++ [p]).length = some r → ifB (stdOps.cmp .lss (pre.length : Int) (P.length : Int)) (req (stdOps.inb (pre.length : Int) (P.length : Int)) (req (stdOps.inb (stdOps.sum 0 (pre.length : Int)) (stdOps.len (P.map (pav κ) ++ tl)))
          (getA (stdOps.get (P.map (pav κ) ++ tl) (stdOps.sum 0 (pre.length : Int))) fun e => sh150 e fun v11 v12 v13 => bindR (f138 stdOps fuel v11 v12 v13 A k) fun r => match r with
            | .v0 r14 => ifB r14 (some (.x0 (pre.length : Int))) (f157_l0 stdOps fuel P.length 0 (P.map (pav κ) ++ tl) A k a2 f (stdOps.ar .add .i64 (pre.length : Int) 1))))) (some .x1) = some r := by
        intro r hr
        refine ifB_is_t (lss_t hi) <| req_is (show (0 : Int) ≤ pre.length ∧ (pre.length : Int) < P.length by omega) <| req_is g2 <| getA_is g1 ?_
        simp only [pav, sh150]
        refine bindR_is f138_is (ifB_is_f (by rw [decide_eq_false_iff_not]; omega) ?_)
        rw [hidx]; exact hr
      rcases ih with ⟨i1, i2⟩ | ⟨a, q, b, i1, i2, i3, i4⟩
      · exact .inl ⟨i1, step i2⟩
      · exact .inr ⟨a, q, b, i1, i2, i3, step i4⟩
theorem f137_l0_is {k : Nat} {A : List AV} {fuel T : Nat} {a2 : Int} {tl : List AV} (hT : T < 2 ^ 42) : ∀ (rest kp : List Pw) (mid : List AV) (f i : Nat) (rw0 : List AV), rest.length < f → 0 < mid.length → i = kp.length + mid.length → T = i + rest.length →
    rw0 = kp.map (pav κ) ++ mid ++ rest.map (pav κ) ++ tl →
    ∃ mid', f137_l0 stdOps fuel T 0 A k a2 f kp.length i rw0 = some (.x0 ((kp ++ keepB κ k rest).length : Int) ((kp ++ keepB κ k rest).map (pav κ) ++ mid')) ∧
      ((kp ++ keepB κ k rest).map (pav κ) ++ mid').length = T + tl.length
  | [], kp, mid, f + 1, i, rw0, hf, hm, hi, ht, hr => by
    subst hr
    refine ⟨mid ++ tl, ?_, by simp [keepB] at ht ⊢; omega⟩
    rw [f137_l0]
    simp only [List.length_nil, Nat.add_zero] at ht
    refine ifB_is_f (lss_f (by omega)) ?_
    simp [keepB]
  | p :: rest, kp, mid, f + 1, i, rw0, hf, hm, hi, ht, hr => by
    obtain ⟨y, mid, rfl⟩ : ∃ y l, mid = y :: l := by cases mid with | nil => simp at hm | cons y l => exact ⟨y, l, rfl⟩
    have hg : rw0[i]? = some (pav κ p) := by
      rw [hr, hi, List.append_assoc, List.append_assoc, List.getElem?_append_right (by simp), List.getElem?_append_right (by simp)]
      simp
    obtain ⟨g1, g2⟩ := get_row hg
    simp only [List.length_cons] at hf ht hm hi
    have hidx : stdOps.ar .add .i64 (i : Int) 1 = ((i + 1 : Nat) : Int) := add1 (by omega)
    rw [f137_l0]
    by_cases e : κ p.n = k
    · obtain ⟨mid', ih, il⟩ := f137_l0_is (k := k) (A := A) (fuel := fuel) (a2 := a2) (tl := tl) hT rest kp (y :: mid ++ [pav κ p]) f (i + 1) rw0 (by omega) (by simp) (by simp; omega) (by omega) (by rw [hr]; simp)
      have hk : keepB κ k (p :: rest) = keepB κ k rest := by unfold keepB; rw [List.filter_cons_of_neg (by simp [e])]
      rw [hk]
      refine ⟨mid', ?_, il⟩
      refine ifB_is_t (lss_t (by omega)) <| req_is (show (0 : Int) ≤ i ∧ (i : Int) < T by omega) <| req_is g2 <| getA_is g1 ?_
      simp only [pav, sh150]
      refine bindR_is f138_is (ifB_is_f (by rw [decide_eq_true (by omega : (κ p.n : Int) = k)]; rfl) ?_)
      rw [hidx]; exact ih
    · have hk : keepB κ k (p :: rest) = p :: keepB κ k rest := by unfold keepB; rw [List.filter_cons_of_pos (by simp [e])]
      have hkl : kp ++ keepB κ k (p :: rest) = (kp ++ [p]) ++ keepB κ k rest := by rw [hk]; simp
      obtain ⟨mid', ih, il⟩ := f137_l0_is (k := k) (A := A) (fuel := fuel) (a2 := a2) (tl := tl) hT rest (kp ++ [p]) (mid ++ [pav κ p]) f (i + 1) (rw0.set kp.length (pav κ p)) (by omega) (by simp) (by simp; omega) (by omega) (by
        rw [hr, List.append_assoc, List.append_assoc, List.set_append_right _ _ (by simp)]
        simp)
      rw [hkl]
      refine ⟨mid', ?_, il⟩
      have hlen : rw0.length = T + tl.length := by rw [hr]; simp; omega
      refine ifB_is_t (lss_t (by omega)) <| req_is (show (0 : Int) ≤ i ∧ (i : Int) < T by omega) <| req_is g2 <| getA_is g1 ?_
      simp only [pav, sh150]
      refine bindR_is f138_is (ifB_is_t (by rw [decide_eq_false (by omega : ¬ (κ p.n : Int) = k)]; rfl) ?_)
      refine req_is (show (0 : Int) ≤ kp.length ∧ (kp.length : Int) < T by omega) <| req_is (show (0 : Int) ≤ 0 + (kp.length : Int) ∧ 0 + (kp.length : Int) < (rw0.length : Int) by omega) ?_
      have hkp : stdOps.ar .add .i64 (kp.length : Int) 1 = ((kp ++ [p]).length : Int) := by rw [add1 (by omega)]; simp
      have hu : stdOps.upd rw0 (stdOps.sum 0 (kp.length : Int)) (.agg [.fp 0 (κ p.n) 0, .int .i64 p.i, .sl 1 p.b .no]) = rw0.set kp.length (pav κ p) := by
        show rw0.set ((0 : Int) + kp.length).toNat _ = _
        rw [show ((0 : Int) + kp.length).toNat = kp.length by omega]; rfl
      rw [hidx, hkp, hu]
      exact ih
theorem f94_is (hI : Iv m) (h : Rs fs κ m lo n N es row) (hP : m.P.length < 2 ^ 42) {name : ByteArray} (hn : name ∈ m.names) {fuel : Nat} (hf : m.P.length < fuel) {A : List AV} {most : Int} {down : Bool} :
    ∃ n' row', f94 stdOps fuel (κ name) A most lo n N down es row = some (.v0 lo n' N row') ∧ n' = (dropP name m.P).length ∧ n' ≤ N ∧ ∃ rest, row' = (dropP name m.P).map (pav κ) ++ rest := by
  obtain ⟨tl, hr⟩ := h.row
  have hl := h.lo0
  have hc := h.cap
  have hnn := h.len
  subst hl hr hnn
  unfold f94 f137
  rcases f157_l0_is (κ := κ) (k := κ name) (A := A) (fuel := fuel) (a2 := N) (tl := tl) hP m.P [] fuel rfl hf (by simp) with ⟨i1, i2⟩ | ⟨a, p, b, i1, i2, i3, i4⟩
  · have h157 : f157 stdOps fuel 0 m.P.length N A (m.P.map (pav κ) ++ tl) (κ name) = some (.v0 (-1)) := by
      unfold f157
      exact bindR_is i2 rfl
    refine ⟨m.P.length, m.P.map (pav κ) ++ tl, bindR_is (bindR_is h157 (ifB_is_t rfl rfl)) rfl, ?_⟩
    rw [← keep_drop hI h hn, i1]
    exact ⟨rfl, hc, tl, rfl⟩
  · have h157 : f157 stdOps fuel 0 m.P.length N A (m.P.map (pav κ) ++ tl) (κ name) = some (.v0 (a.length : Int)) := by
      unfold f157
      exact bindR_is i4 rfl
    have hpl : m.P.length = a.length + 1 + b.length := by rw [i1]; simp; omega
    obtain ⟨mid', q1, q2⟩ := f137_l0_is (κ := κ) (k := κ name) (A := A) (fuel := fuel) (T := m.P.length) (a2 := N) (tl := tl) hP b a [pav κ p] fuel (a.length + 1) (m.P.map (pav κ) ++ tl) (by omega) (by simp) (by simp) (by omega) (by rw [i1]; simp)
    have hkd : a ++ keepB κ (κ name) b = dropP name m.P := by
      rw [← keep_drop hI h hn, i1]
      unfold keepB
      rw [List.filter_append, List.filter_cons_of_neg (by simp [i3]), (List.filter_eq_self (l := a)).2 fun q hq => by simp [i2 q hq]]
    rw [hkd] at q1 q2
    have hdl : (dropP name m.P).length ≤ m.P.length := List.length_filter_le _ _
    have hidx : stdOps.ar .add .i64 (a.length : Int) 1 = ((a.length + 1 : Nat) : Int) := add1 (by omega)
    obtain ⟨d, hd⟩ : ∃ d, d = dropP name m.P := ⟨_, rfl⟩
    rw [← hd] at q1 q2 hdl ⊢
    obtain ⟨z, hz⟩ : ∃ z, z = stdOps.lay (d.map (pav κ) ++ mid') (stdOps.sum 0 (d.length : Int)) (stdOps.rep (stdOps.dif (m.P.length : Int) (d.length : Int)) (.agg [.nilp, .int .i64 0, .nils])) := ⟨_, rfl⟩
    refine ⟨(d.length : Int), z, bindR_is (v := F137R.v0 0 (d.length : Int) N z) (bindR_is h157 (ifB_is_f (by rw [eql_is, decide_eq_false_iff_not]; omega) ?_)) rfl, rfl, by omega, ?_⟩
    · rw [hidx]
      refine bindR_is q1 ?_
      simp only
      refine req_is (show (0 : Int) ≤ d.length by omega) <| req_is (show (d.length : Int) ≤ m.P.length by omega) <| req_is (show (0 : Int) ≤ 0 + (d.length : Int) by omega) <| req_is (show (0 : Int) ≤ (m.P.length : Int) - d.length by omega) <|
        req_is (show (0 : Int) + d.length + ((m.P.length : Int) - d.length) ≤ ((d.map (pav κ) ++ mid').length : Int) by omega) <| req_is (show (0 : Int) ≤ d.length by omega) <| req_is (show (0 : Int) + (d.length : Int) ≤ N by omega) (by rw [hz])
    · have hlay : ∀ Y : List AV, stdOps.lay (d.map (pav κ) ++ mid') (stdOps.sum 0 (d.length : Int)) Y = d.map (pav κ) ++ Y ++ (d.map (pav κ) ++ mid').drop ((stdOps.sum 0 (d.length : Int)).toNat + Y.length) := by
        intro Y
        show (d.map (pav κ) ++ mid').take (stdOps.sum 0 (d.length : Int)).toNat ++ Y ++ _ = _
        congr 2
        rw [show (stdOps.sum 0 (d.length : Int)).toNat = (d.map (pav κ)).length by simp [stdOps], List.take_left]
      rw [hz, hlay, List.append_assoc]
      exact ⟨_, rfl⟩
theorem Mo.all_eq {name : ByteArray} : m.all name = seen m.P name (m.sure name) := rfl
theorem f93_at (hI : Iv m) (h : Rs fs κ m lo n N es row) (hP : m.P.length < 2 ^ 42) {name : ByteArray} (hn : name ∈ m.names) {fuel : Nat} {most : Int} {down : Bool} (hf : m.P.length < fuel) :
    f93_1 stdOps fuel (κ name) (fs.map fav) most lo n N down es row = some (.v0 (m.all name)) := f93_is hI h hP (Mo.mem_sure hI.nodup hn) hf
theorem f34_is (hI : Iv m) (h : Rs fs κ m lo n N es row) (hP : (m.P.length + 1) * 40 ≤ 2 ^ 47) {name : ByteArray} {i : Int} {b : List AV} (hb : b.length ≤ 2 ^ 47) {fuel : Nat} (hf : m.P.length < fuel) (hf2 : 5000 < fuel) :
    ∃ lo' n' N' row', f34 stdOps fuel name i b (fs.map fav) m.most lo n N m.down es row = some (.v0 (m.write name i b).1 lo' n' N' es row') ∧ Rs fs κ (m.write name i b).2 lo' n' N' es row' := by
  have hP' : m.P.length < 2 ^ 42 := by omega
  unfold f34 Mo.write
  rw [bindR_eq (f92_is h)]
  rcases fnd_find (κ := κ) (m := m) name with ⟨h0, hd, hm, hv⟩ | ⟨h0, hv⟩
  · rw [hv, if_neg (by simpa using h0)]
    simp only
    rw [ifB_f bnot_eq, bindR_eq (f93_at hI h hP' hm hf)]
    have hal := hI.all_le hm
    simp only
    have hsub : stdOps.ar .sub .i64 (stdOps.len (m.all name)) i = ((m.all name).length : Int) - i ∨ i < 0 ∨ ((m.all name).length : Int) < i := by
      by_cases hx : i < 0 ∨ ((m.all name).length : Int) < i
      · exact .inr hx
      · exact .inl (wr_i64 (by rw [len_is]; omega) (by rw [len_is]; omega))
    by_cases h1 : i < 0 ∨ ((m.all name).length : Int) < i
    · rw [if_pos h1]
      refine ⟨lo, n, N, row, ifB_is_t ?_ rfl, h⟩
      simp only [stdOps]
      rcases h1 with h1 | h1 <;> simp [h1]
    · rw [if_neg h1]
      have hsub := hsub.resolve_right h1
      have hsub2 : stdOps.ar .sub .i64 (stdOps.len b) (((m.all name).length : Int) - i) = (b.length : Int) - ((m.all name).length - i) := wr_i64 (by rw [len_is]; omega) (by rw [len_is]; omega)
      have hg : stdOps.pick (stdOps.cmp .lss i 0) true (stdOps.cmp .gtr i (stdOps.len (m.all name))) = false := by
        simp only [stdOps]
        have h2 : ¬ i < 0 := fun e => h1 (.inl e)
        have h3 : ¬ i > ((m.all name).length : Int) := fun e => h1 (.inr e)
        simp [h2, h3]
      rw [ifB_f hg, bindR_eq (f52_is hI h hP' hf hf2)]
      simp only
      rw [hsub, hsub2]
      by_cases h4 : m.left < (b.length : Int) - ((m.all name).length - i)
      · rw [if_pos h4]
        exact ⟨lo, n, N, row, ifB_is_t (by simp only [stdOps, decide_eq_true_eq]; omega) rfl, h⟩
      · rw [if_neg h4, ifB_f (by simp only [stdOps, decide_eq_false_iff_not]; omega)]
        by_cases h5 : b = []
        · rw [if_pos h5]
          exact ⟨lo, n, N, row, ifB_is_f (by subst h5; rfl) rfl, h⟩
        · rw [if_neg h5]
          have hbl : 0 < b.length := List.length_pos_iff.2 h5
          have hm1 := hI.m1
          have hle : m.left ≤ m.most := by unfold Mo.left; omega
          obtain ⟨rest, hr⟩ := h.row
          have hlo := h.lo0
          have hn := h.len
          have hcap := h.cap
          have htake : stdOps.sub row 0 n = m.P.map (pav κ) := by
            show (row.take n.toNat).drop (0 : Int).toNat = _
            rw [hr, hn, show ((m.P.length : Nat) : Int).toNat = (m.P.map (pav κ)).length by simp, List.take_left]; rfl
          have hrl : n ≤ (row.length : Int) := by rw [hr, hn]; simp; omega
          refine ⟨0, _, _, _, ifB_is_t (by simp only [stdOps, decide_eq_true_eq]; omega) (bindR_is (f95_is (by omega)) (req_is (show lo = 0 from hlo) <| req_is (show (0 : Int) ≤ n by omega) <| req_is (show n ≤ (row.length : Int) from hrl) <| req_is ?_ rfl)), ?_⟩
          · rw [htake]
            show ((m.P.map (pav κ)).length + 1) * 40 ≤ 2 ^ 47
            simpa using hP
          · rw [htake]
            refine ⟨rfl, ?_, Int.le_refl _, ⟨[], ?_⟩, h.es, h.inj, h.get⟩
            · show ((m.P.map (pav κ) ++ [_]).length : Int) = ((m.P ++ [_]).length : Int)
              simp
            · show m.P.map (pav κ) ++ [_] = _
              simp [pav]
  · rw [hv, if_pos h0]
    exact ⟨lo, n, N, row, ifB_is_t (bnot_ne h0) rfl, h⟩
theorem mem_setL {name : ByteArray} {b : List AV} {L : List (ByteArray × List AV)} {x : ByteArray × List AV} (h : x ∈ setL name b L) : (x.1 = name ∧ x.2 = b ∧ name ∈ L.map Prod.fst) ∨ (x.1 ≠ name ∧ x ∈ L) := by
  unfold setL at h
  obtain ⟨y, hy, rfl⟩ := List.mem_map.1 h
  by_cases e : y.1 = name
  · rw [if_pos e]; exact .inl ⟨e, rfl, e ▸ List.mem_map_of_mem hy⟩
  · rw [if_neg e]; exact .inr ⟨e, hy⟩
theorem set_fs {k : Nat} {b : List AV} : stdOps.upd (fs.map fav) (k : Int) (.agg [.sl 1 b .no]) = (fs.set k b).map fav := by
  show (fs.map fav).set ((k : Nat) : Int).toNat (fav b) = _
  rw [show ((k : Nat) : Int).toNat = k by omega, List.map_set]
theorem Rs.set (_hI : Iv m) (h : Rs fs κ m lo n N es row) {name : ByteArray} (hn : name ∈ m.names) {b : List AV} {n' : Int} {row' : List AV} (h1 : n' = (dropP name m.P).length) (h2 : n' ≤ N) (h3 : ∃ rest, row' = (dropP name m.P).map (pav κ) ++ rest) :
    Rs (fs.set (κ name) b) κ ⟨setL name b m.L, dropP name m.P, m.most, m.down⟩ lo n' N es row' ∧ Fr fs (fs.set (κ name) b) κ κ m ⟨setL name b m.L, dropP name m.P, m.most, m.down⟩ := by
  have hnames : Mo.names ⟨setL name b m.L, dropP name m.P, m.most, m.down⟩ = m.names := names_set
  refine ⟨⟨h.lo0, h1, h2, h3, ?_, ?_, ?_⟩, by simp, ?_, ?_⟩
  · rw [hnames]; exact h.es
  · rw [hnames]; exact h.inj
  · intro x hx
    rcases mem_setL hx with ⟨e1, e2, _⟩ | ⟨e1, hx⟩
    · rw [e1, e2, List.getElem?_set_self (h.lt hn)]
    · rw [List.getElem?_set_ne (fun e => e1 (h.inj _ (List.mem_map_of_mem hx) _ hn e.symm))]
      exact h.get x hx
  · intro k _ hk
    rw [List.getElem?_set_ne fun e => hk ⟨name, hn, e⟩]
  · rintro k ⟨a, ha, e⟩
    rw [hnames] at ha
    exact .inl ⟨a, ha, e⟩
theorem f33_is (hI : Iv m) (h : Rs fs κ m lo n N es row) (hP : m.P.length < 2 ^ 42) {name : ByteArray} {fuel : Nat} (hf : m.P.length < fuel) {most : Int} :
    ∃ fs' lo' n' N' row', f33 stdOps fuel name (fs.map fav) most lo n N m.down es row = some (.v0 (m.sync name).1 (fs'.map fav) lo' n' N' row') ∧ Rs fs' κ (m.sync name).2 lo' n' N' es row' ∧ Fr fs fs' κ κ m (m.sync name).2 := by
  unfold f33 Mo.sync
  rw [bindR_eq (f92_is h)]
  rcases fnd_find (κ := κ) (m := m) name with ⟨h0, hd, hm, hv⟩ | ⟨h0, hv⟩
  · rw [hv, if_neg (by simpa using h0)]
    simp only
    rw [ifB_f bnot_eq, bindR_eq (f93_at hI h hP hm hf)]
    obtain ⟨g1, g2⟩ := h.fget (Mo.mem_sure hI.nodup hm)
    obtain ⟨n', row', q1, q2, q3, q4⟩ := f94_is hI h hP hm hf (A := (fs.set (κ name) (m.all name)).map fav) (most := most) (down := m.down)
    have hs := Rs.set hI h hm (b := m.all name) q2 q3 q4
    refine ⟨fs.set (κ name) (m.all name), lo, n', N, row', ?_, hs⟩
    refine req_is g2 <| getA_is g1 ?_
    simp only [fav, sh147]
    rw [set_fs]
    exact bindR_is q1 rfl
  · rw [hv, if_pos h0]
    exact ⟨fs, lo, n, N, row, ifB_is_t (bnot_ne h0) rfl, h, .rfl' fun _ h => h⟩
theorem f64_is (hI : Iv m) (h : Rs fs κ m lo n N es row) (hP : m.P.length < 2 ^ 42) {name : ByteArray} {i : Int} {fuel : Nat} (hf : m.P.length < fuel) {most : Int} :
    ∃ fs' lo' n' N' row', f64 stdOps fuel name i (fs.map fav) most lo n N m.down es row = some (.v0 (m.cut name i).1 (fs'.map fav) lo' n' N' row') ∧ Rs fs' κ (m.cut name i).2 lo' n' N' es row' ∧ Fr fs fs' κ κ m (m.cut name i).2 := by
  unfold f64 Mo.cut
  rw [bindR_eq (f92_is h)]
  rcases fnd_find (κ := κ) (m := m) name with ⟨h0, hd, hm, hv⟩ | ⟨h0, hv⟩
  · rw [hv, if_neg (by simpa using h0)]
    simp only
    rw [ifB_f bnot_eq, bindR_eq (f93_at hI h hP hm hf)]
    by_cases h1 : i < 0 ∨ ((m.all name).length : Int) < i
    · rw [if_pos h1]
      refine ⟨fs, lo, n, N, row, ifB_is_t ?_ rfl, h, .rfl' fun _ h => h⟩
      simp only [stdOps]
      rcases h1 with h1 | h1 <;> simp [h1]
    · rw [if_neg h1]
      have h2 : ¬ i < 0 := fun e => h1 (.inl e)
      have h3 : ¬ i > ((m.all name).length : Int) := fun e => h1 (.inr e)
      have hg : stdOps.pick (stdOps.cmp .lss i 0) true (stdOps.cmp .gtr i (stdOps.len (m.all name))) = false := by
        simp only [stdOps]
        simp [h2, h3]
      obtain ⟨g1, g2⟩ := h.fget (Mo.mem_sure hI.nodup hm)
      obtain ⟨n', row', q1, q2, q3, q4⟩ := f94_is hI h hP hm hf (A := (fs.set (κ name) ((m.all name).take i.toNat)).map fav) (most := most) (down := m.down)
      have hs := Rs.set hI h hm (b := (m.all name).take i.toNat) q2 q3 q4
      refine ⟨fs.set (κ name) ((m.all name).take i.toNat), lo, n', N, row', ?_, hs⟩
      refine ifB_is_f hg <| req_is (show (0 : Int) ≤ i by omega) <| req_is (Int.le_refl i) <| req_is (show i ≤ ((m.all name).length : Int) by omega) <| req_is g2 <| getA_is g1 ?_
      simp only [fav, sh147]
      rw [show stdOps.sub (m.all name) 0 i = (m.all name).take i.toNat from rfl, set_fs]
      exact bindR_is q1 rfl
  · rw [hv, if_pos h0]
    exact ⟨fs, lo, n, N, row, ifB_is_t (bnot_ne h0) rfl, h, .rfl' fun _ h => h⟩
theorem names_outM {name : ByteArray} {P : List Pw} {a : ByteArray} : a ∈ Mo.names ⟨outL name m.L, P, m.most, m.down⟩ ↔ a ∈ m.names ∧ a ≠ name := by
  unfold Mo.names
  rw [names_out, List.mem_filter, decide_eq_true_eq]
theorem f66_is (hI : Iv m) (h : Rs fs κ m lo n N es row) (hP : m.P.length < 2 ^ 42) {name : ByteArray} {fuel : Nat} (hf : m.P.length < fuel) {most : Int} :
    ∃ lo' n' N' es' row', f66 stdOps fuel name (fs.map fav) most lo n N m.down es row = some (.v0 (m.remove name).1 lo' n' N' es' row') ∧ Rs fs κ (m.remove name).2 lo' n' N' es' row' := by
  obtain ⟨ns, he, hp⟩ := h.es
  unfold f66 Mo.remove
  rw [bindR_eq (f92_is h)]
  rcases fnd_find (κ := κ) (m := m) name with ⟨h0, hd, hm, hv⟩ | ⟨h0, hv⟩
  · rw [hv, if_neg (by simpa using h0)]
    simp only
    rw [ifB_f bnot_eq]
    obtain ⟨n', row', q1, q2, q3, q4⟩ := f94_is hI h hP hm hf (A := fs.map fav) (most := most) (down := m.down)
    refine ⟨lo, n', N, (ns.erase name).map (eav κ), row', bindR_is q1 (req_is (by rw [he]; exact mok_e) (by rw [he, del_e])), h.lo0, q2, q3, q4, ⟨_, rfl, ?_⟩, ?_, ?_⟩
    · have hnd : ns.Nodup := hp.nodup_iff.2 hI.nodup
      unfold Mo.names
      rw [names_out, hnd.erase_eq_filter]
      refine (hp.filter _).trans ?_
      refine List.Perm.of_eq (List.filter_congr fun x _ => ?_)
      by_cases e : x = name <;> simp [e]
    · intro a ha b hb
      exact h.inj a (names_outM.1 ha).1 b (names_outM.1 hb).1
    · intro x hx
      exact h.get x (List.mem_filter.1 hx).1
  · rw [hv, if_pos h0]
    exact ⟨lo, n, N, es, row, ifB_is_t (bnot_ne h0) rfl, h⟩
end
end Go.Proofs.Ytjdbmfipciadfaa.A
namespace Go.Proofs.Ytjdbmfipciadfaa.A
open Go Go.Pt
section
variable {fs : List (List AV)} {κ : ByteArray → Nat} {m : Mo} {lo n N : Int} {es : List (AV × AV)} {row : List AV}
def Mo.renamed (m : Mo) (name to : ByteArray) : Mo := ⟨insL to (m.sure name) (outL name (outL to m.L)), renP name to (dropP to m.P), m.most, m.down⟩
theorem mem_renamed {name to a : ByteArray} : a ∈ (m.renamed name to).names ↔ a = to ∨ (a ∈ m.names ∧ a ≠ name ∧ a ≠ to) := by
  unfold Mo.renamed Mo.names
  rw [mem_names_ins, names_out, names_out, List.mem_filter, List.mem_filter, decide_eq_true_eq, decide_eq_true_eq]
  constructor
  · rintro (h | ⟨⟨h1, h2⟩, h3⟩)
    · exact .inl h
    · exact .inr ⟨h1, h3, h2⟩
  · rintro (h | ⟨h1, h2, h3⟩)
    · exact .inl h
    · exact .inr ⟨⟨h1, h3⟩, h2⟩
theorem Rs.rename (hI : Iv m) (h : Rs fs κ m lo n N es row) {name to : ByteArray} (hm : name ∈ m.names) (hne : to ≠ name) {n' : Int} {row' : List AV} {es' : List (AV × AV)} (h1 : n' = (dropP to m.P).length) (h2 : n' ≤ N) (h3 : ∃ rest, row' = (dropP to m.P).map (pav κ) ++ rest)
    (hes : ∃ ns' : List ByteArray, es' = ns'.map (eav fun x => if x = to then κ name else κ x) ∧ ns'.Perm (m.renamed name to).names) :
    Rs fs (fun x => if x = to then κ name else κ x) (m.renamed name to) lo n' N es' row' ∧ Fr fs fs κ (fun x => if x = to then κ name else κ x) m (m.renamed name to) := by
  obtain ⟨κ', hκ'⟩ : ∃ κ' : ByteArray → Nat, κ' = fun x => if x = to then κ name else κ x := ⟨_, rfl⟩
  rw [← hκ'] at hes ⊢
  have k1 : κ' to = κ name := by simp [hκ']
  have k2 : ∀ a, a ≠ to → κ' a = κ a := fun a ha => by simp [hκ', ha]
  refine ⟨⟨h.lo0, ?_, h2, ?_, hes, ?_, ?_⟩, Nat.le_refl _, fun _ _ _ => rfl, ?_⟩
  · rw [h1]; simp [Mo.renamed, renP]
  · obtain ⟨rest, hr⟩ := h3
    refine ⟨rest, ?_⟩
    rw [hr]
    congr 1
    unfold Mo.renamed renP
    simp only [List.map_map]
    refine List.map_congr_left fun p hp => ?_
    have hp2 : p.n ≠ to := by
      have := (List.mem_filter.1 hp).2
      simpa using this
    show pav κ p = pav κ' (if p.n = name then ⟨to, p.i, p.b⟩ else p)
    by_cases e : p.n = name
    · rw [if_pos e]; unfold pav; rw [k1, e]
    · rw [if_neg e]; unfold pav; rw [k2 _ hp2]
  · intro a ha b hb e
    rcases mem_renamed.1 ha with rfl | ⟨a1, a2, a3⟩ <;> rcases mem_renamed.1 hb with rfl | ⟨b1, b2, b3⟩
    · rfl
    · rw [k1, k2 _ b3] at e
      exact absurd (h.inj _ hm _ b1 e).symm b2
    · rw [k1, k2 _ a3] at e
      exact absurd (h.inj _ a1 _ hm e) a2
    · rw [k2 _ a3, k2 _ b3] at e
      exact h.inj _ a1 _ b1 e
  · intro x hx
    rcases mem_insL.1 hx with rfl | hx
    · show fs[κ' to]? = _
      rw [k1]
      exact h.get _ (Mo.mem_sure hI.nodup hm)
    · have hx1 := List.mem_filter.1 hx
      have hx2 := List.mem_filter.1 hx1.1
      rw [k2 _ (by simpa using hx2.2)]
      exact h.get x hx2.1
  · rintro k ⟨a, ha, rfl⟩
    rcases mem_renamed.1 ha with rfl | ⟨a1, a2, a3⟩
    · exact .inl ⟨name, hm, k1.symm⟩
    · exact .inl ⟨a, a1, (k2 a a3).symm⟩
theorem erase_perm {ns : List ByteArray} {name : ByteArray} (hnd : ns.Nodup) : ns.erase name = ns.filter fun x => decide (x ≠ name) := by
  rw [hnd.erase_eq_filter]
  refine List.filter_congr fun x _ => ?_
  by_cases e : x = name <;> simp [e]
theorem names_renamed {name to : ByteArray} : (m.renamed name to).names.Perm (to :: (m.names.filter fun a => decide (a ≠ to)).filter fun a => decide (a ≠ name)) := by
  unfold Mo.renamed Mo.names
  refine names_ins.trans ?_
  rw [names_out, names_out]
theorem f65_is (hI : Iv m) (h : Rs fs κ m lo n N es row) (hP : m.P.length < 2 ^ 42) {name to : ByteArray} {fuel : Nat} (hf : m.P.length < fuel) {most : Int} :
    ∃ κ' lo' n' N' es' row', f65 stdOps fuel name to (fs.map fav) most lo n N m.down es row = some (.v0 (m.rename name to).1 lo' n' N' es' row') ∧ Rs fs κ' (m.rename name to).2 lo' n' N' es' row' ∧ Fr fs fs κ κ' m (m.rename name to).2 := by
  obtain ⟨ns, he, hp⟩ := h.es
  have hnd : ns.Nodup := hp.nodup_iff.2 hI.nodup
  unfold f65 Mo.rename
  rw [bindR_eq (f92_is h)]
  rcases fnd_find (κ := κ) (m := m) name with ⟨h0, hd, hm, hv⟩ | ⟨h0, hv⟩
  · rw [hv, if_neg (by simpa using h0)]
    simp only
    rw [ifB_f bnot_eq, seq_is, seq_is]
    by_cases e1 : to = emp0
    · rw [ifB_t (by rw [e1]; rfl), if_pos e1]
      exact ⟨κ, lo, n, N, es, row, rfl, h, .rfl' fun _ h => h⟩
    · rw [ifB_f (by rw [decide_eq_false_iff_not]; exact e1), if_neg e1]
      by_cases e2 : to = name
      · rw [ifB_t (by rw [decide_eq_true_eq]; exact e2), if_pos e2]
        exact ⟨κ, lo, n, N, es, row, rfl, h, .rfl' fun _ h => h⟩
      · rw [ifB_f (by rw [decide_eq_false_iff_not]; exact e2), if_neg e2]
        have he2 := he
        rw [he, findE, del_e]
        have hto : to ∈ ns ↔ to ∈ m.names := hp.mem_iff
        show ∃ κ' lo' n' N' es' row', _ ∧ Rs fs κ' (m.renamed name to) lo' n' N' es' row' ∧ Fr fs fs κ κ' m (m.renamed name to)
        by_cases e3 : to ∈ m.names
        · rw [if_pos (hto.2 e3)]
          obtain ⟨n', row', q1, q2, q3, q4⟩ := f94_is hI h hP e3 hf (A := fs.map fav) (most := most) (down := m.down)
          have hin : to ∈ ns.erase name := by rw [erase_perm hnd]; exact List.mem_filter.2 ⟨hto.2 e3, by simpa using e2⟩
          have hs := Rs.rename hI h hm e2 q2 q3 q4 (es' := (ns.erase name).map (eav fun x => if x = to then κ name else κ x)) ⟨_, rfl, by
            refine (List.perm_cons_erase hin).trans (List.Perm.trans ?_ names_renamed.symm)
            refine List.Perm.cons _ ?_
            rw [erase_perm (hnd.erase _), erase_perm hnd, List.filter_filter, List.filter_filter]
            refine (hp.filter _).trans (List.Perm.of_eq (List.filter_congr fun x _ => ?_))
            rw [Bool.and_comm]⟩
          rw [he] at q1
          refine ⟨_, lo, n', N, _, row', bindR_is q1 (req_is mok_e (req_is mok_e ?_)), hs⟩
          rw [putr_e hin (hnd.erase _)]
        · rw [if_neg (fun e => e3 (hto.1 e))]
          have hdp : dropP to m.P = m.P := by
            unfold dropP
            rw [List.filter_eq_self]
            intro p hp'
            rw [decide_eq_true_eq]
            exact fun e => e3 (e ▸ hI.pn p hp')
          have hnin : to ∉ ns.erase name := fun e => e3 (hto.1 (List.mem_of_mem_erase e))
          have hs := Rs.rename hI h hm e2 (n' := n) (row' := row) (es' := (ns.erase name).map (eav κ) ++ [(.str to, .fp 0 (κ name) 0)]) (by rw [hdp]; exact h.len) h.cap (by rw [hdp]; exact h.row) ⟨ns.erase name ++ [to], by
            rw [List.map_append]
            congr 1
            · refine List.map_congr_left fun x hx => ?_
              have : x ≠ to := fun e => hnin (e ▸ hx)
              simp [eav, this]
            · simp [eav], by
            refine List.perm_append_comm.trans (List.Perm.trans ?_ names_renamed.symm)
            refine List.Perm.cons _ ?_
            rw [erase_perm hnd]
            refine (hp.filter _).trans (List.Perm.of_eq ?_)
            congr 1
            refine (List.filter_eq_self.2 fun x hx => ?_).symm
            rw [decide_eq_true_eq]
            exact fun e => e3 (e ▸ hx)⟩
          refine ⟨_, lo, n, N, _, row, req_is mok_e (req_is mok_e ?_), hs⟩
          rw [put_e hnin]
  · rw [hv, if_pos h0]
    exact ⟨κ, lo, n, N, es, row, ifB_is_t (bnot_ne h0) rfl, h, .rfl' fun _ h => h⟩
theorem f98_is {a : Int} {A : List AV} {fuel : Nat} (h : -9223372036854775808 ≤ a ∧ a ≤ 9223372036854775807) : f98 stdOps fuel a A = some (.v0 (bare a : Int)) := by
  unfold f98 bare
  rw [eql_is]
  by_cases e : a = -9223372036854775808
  · rw [ifB_t (by simp [e]), if_pos e]; rfl
  · rw [ifB_f (by simp [e]), if_neg e]
    by_cases e2 : a < 0
    · rw [ifB_t (by simp [stdOps, e2])]
      have : stdOps.neg .i64 a = 0 - a := wr_i64 (by omega) (by omega)
      rw [this]
      congr 2; omega
    · rw [ifB_f (by simp only [stdOps, decide_eq_false_iff_not]; exact e2)]
      congr 2; omega
structure Cr (fs fs' : List (List AV)) (κ : ByteArray → Nat) (m : Mo) (Q : List Pw) : Prop where
  len : fs'.length = fs.length
  get : ∀ x ∈ m.L, fs'[κ x.1]? = some (seen Q x.1 x.2)
  old : ∀ k, ¬ Ids κ m k → fs'[k]? = fs[k]?
theorem Cr.step (hI : Iv m) (h : Rs fs κ m lo n N es row) {fs' : List (List AV)} {Q : List Pw} (hc : Cr fs fs' κ m Q) {p : Pw} (hp : p.n ∈ m.names) {b : List AV} : Cr fs (fs'.set (κ p.n) (ov (seen Q p.n (m.sure p.n)) p.i.toNat b)) κ m (Q ++ [⟨p.n, p.i, b⟩]) := by
  refine ⟨by simp [hc.len], fun x hx => ?_, fun k hk => ?_⟩
  · have hs : seen (Q ++ [⟨p.n, p.i, b⟩]) x.1 x.2 = seen1 x.1 (seen Q x.1 x.2) ⟨p.n, p.i, b⟩ := by rw [seen_append]; rfl
    rw [hs]
    unfold seen1
    by_cases e : p.n = x.1
    · rw [if_pos e, e, List.getElem?_set_self (by rw [hc.len]; exact h.lt (List.mem_map_of_mem hx)), Mo.sure_of hI.nodup (show (x.1, x.2) ∈ m.L from hx)]
    · rw [if_neg e, List.getElem?_set_ne (fun e2 => e (h.inj _ hp _ (List.mem_map_of_mem hx) e2))]
      exact hc.get x hx
  · rw [List.getElem?_set_ne fun e => hk ⟨p.n, hp, e⟩]
    exact hc.old k hk
theorem f36_l0_is (hI : Iv m) (h : Rs fs κ m lo n N es row) (hP : m.P.length < 2 ^ 42) {K : Nat} (hK : K ≤ m.P.length) {bk torn : Int} (hbk : stdOps.ar .rem .i64 bk (stdOps.ar .add .i64 n 1) = (K : Int)) (ht : -9223372036854775808 ≤ torn ∧ torn ≤ 9223372036854775807) {fuel : Nat} {a6 a3 : Int} {a7 : Bool} {a8 : List (AV × AV)} :
    ∀ (rest pre : List Pw) (f : Nat) (fs' : List (List AV)), m.P = pre ++ rest → rest.length < f → pre.length ≤ K → Cr fs fs' κ m pre →
      ∃ fs2 r, f36_l0 stdOps fuel n lo row bk torn a6 a3 a7 a8 f pre.length (fs'.map fav) = some r ∧ (r = .x0 (fs2.map fav) ∨ r = .x1 (fs2.map fav)) ∧
        Cr fs fs2 κ m (m.P.take K ++ (match m.P[K]? with | some p => [⟨p.n, p.i, p.b.take (bare torn % (p.b.length + 1))⟩] | none => []))
  | [], pre, f + 1, fs', hp, hf, hk, hc => by
    have hn := h.len
    have hl : m.P.length = pre.length := by rw [hp]; simp
    refine ⟨fs', .x1 (fs'.map fav), ?_, .inr rfl, ?_⟩
    · rw [f36_l0]
      exact ifB_is_f (by rw [hn, hl]; exact lss_f (by omega)) rfl
    · have hKl : K = m.P.length := by omega
      rw [hKl, List.take_length, List.getElem?_eq_none (Nat.le_refl _)]
      simp only [List.append_nil]
      rw [hp, List.append_nil]; exact hc
  | p :: rest, pre, f + 1, fs', hp, hf, hk, hc => by
    have hi : pre.length < m.P.length := by rw [hp]; simp
    have hpi : m.P[pre.length] = p := by simp [hp]
    have hpm : p ∈ m.P := hpi ▸ List.getElem_mem hi
    have hpn := hI.pn p hpm
    have hpb := hI.pb p hpm
    obtain ⟨g1, g2, g3⟩ := h.rowget hi
    rw [hpi] at g1
    have hn := h.len
    have hidx : stdOps.ar .add .i64 (pre.length : Int) 1 = ((pre ++ [p]).length : Int) := by rw [add1 (by omega)]; simp
    have hmem := Mo.mem_sure hI.nodup hpn
    have hok := hI.ok _ hmem
    rw [hp, okW_append] at hok
    have hle := hok.2.1 rfl
    have hw : (seen pre p.n (m.sure p.n)).length ≤ 2 ^ 22 := by
      have h1 := hI.seen_le hmem
      have h2 := seen_le hok.2
      rw [hp, seen_append] at h1
      simp only at h1 h2
      omega
    have hfg : stdOps.get (fs'.map fav) (κ p.n : Int) = some (fav (seen pre p.n (m.sure p.n))) := by
      show (fs'.map fav)[((κ p.n : Nat) : Int).toNat]? = _
      rw [show ((κ p.n : Nat) : Int).toNat = κ p.n by omega, List.getElem?_map, hc.get _ hmem]; rfl
    have hfi : stdOps.inb (κ p.n : Int) (stdOps.len (fs'.map fav)) := by
      have := h.lt hpn
      have hl := hc.len
      show (0 : Int) ≤ (κ p.n : Nat) ∧ ((κ p.n : Nat) : Int) < ((fs'.map fav).length : Int)
      simp; omega
    rw [f36_l0]
    by_cases e : pre.length < K
    · have hs := Cr.step hI h hc hpn (b := p.b)
      obtain ⟨fs2, r, i1, i2, i3⟩ := f36_l0_is hI h hP hK hbk ht (fuel := fuel) (a6 := a6) (a3 := a3) (a7 := a7) (a8 := a8) rest (pre ++ [p]) f _ (by simpa using hp) (by simp at hf; omega) (by simp; omega) hs
      refine ⟨fs2, r, ?_, i2, i3⟩
      refine ifB_is_t (by rw [hn]; exact lss_t hi) <| req_is g3 <| req_is g2 <| getA_is g1 ?_
      simp only [pav, sh150]
      rw [hbk, hidx]
      refine ifB_is_t (lss_t e) <| req_is hfi <| getA_is hfg ?_
      simp only [fav, sh147]
      refine bindR_is (f99_is hle.1 hle.2 (by omega) (by omega)) <| req_is hfi <| getA_is hfg ?_
      rw [set_fs]
      exact i1
    · have hKe : K = pre.length := by omega
      have hs := Cr.step hI h hc hpn (b := p.b.take (bare torn % (p.b.length + 1)))
      have hml : bare torn % (p.b.length + 1) < p.b.length + 1 := Nat.mod_lt _ (by omega)
      have hadd : stdOps.ar .add .i64 (stdOps.len p.b) 1 = ((p.b.length + 1 : Nat) : Int) := add1 (by omega)
      have hrem : stdOps.ar .rem .i64 (bare torn : Int) ((p.b.length + 1 : Nat) : Int) = ((bare torn % (p.b.length + 1) : Nat) : Int) := rfl
      have htk : stdOps.sub p.b 0 ((bare torn % (p.b.length + 1) : Nat) : Int) = p.b.take (bare torn % (p.b.length + 1)) := by
        show (p.b.take ((bare torn % (p.b.length + 1) : Nat) : Int).toNat).drop 0 = _
        rw [List.drop_zero, Int.toNat_natCast]
      refine ⟨fs'.set (κ p.n) (ov (seen pre p.n (m.sure p.n)) p.i.toNat (p.b.take (bare torn % (p.b.length + 1)))), _, ?_, .inl rfl, ?_⟩
      rotate_left
      · have : m.P[K]? = some p := by rw [hKe, List.getElem?_eq_getElem hi, hpi]
        rw [this, hKe]
        have ht : m.P.take pre.length = pre := by rw [hp, List.take_left]
        rw [ht]
        exact hs
      · refine ifB_is_t (by rw [hn]; exact lss_t hi) <| req_is g3 <| req_is g2 <| getA_is g1 ?_
        simp only [pav, sh150]
        rw [hbk]
        refine ifB_is_f (lss_f e) <| ifB_is_t (by rw [eql_is, hKe]; simp) <| req_is hfi <| getA_is hfg ?_
        simp only [fav, sh147]
        refine bindR_is (f98_is ht) ?_
        simp only
        rw [hadd, hrem, htk]
        refine req_is (show ((p.b.length + 1 : Nat) : Int) ≠ 0 by omega) <| req_is (show (0 : Int) ≤ ((bare torn % (p.b.length + 1) : Nat) : Int) by omega) <| req_is (show ((bare torn % (p.b.length + 1) : Nat) : Int) ≤ (p.b.length : Int) by omega) <|
          bindR_is (f99_is hle.1 hle.2 (by omega) (by rw [List.length_take]; omega)) <| req_is hfi <| getA_is hfg ?_
        rw [set_fs]
        rfl
theorem f36_is (hI : Iv m) (h : Rs fs κ m lo n N es row) (hP : m.P.length < 2 ^ 42) {keep torn : Int} (hk : -9223372036854775808 ≤ keep ∧ keep ≤ 9223372036854775807) (ht : -9223372036854775808 ≤ torn ∧ torn ≤ 9223372036854775807) {fuel : Nat} (hf : m.P.length < fuel) {most : Int} :
    ∃ fs' lo' n' N' row', f36 stdOps fuel keep torn (fs.map fav) most lo n N m.down es row = some (.v0 (m.crash keep torn).1 (fs'.map fav) lo' n' N' (m.crash keep torn).2.down row') ∧ Rs fs' κ (m.crash keep torn).2 lo' n' N' es row' ∧ Fr fs fs' κ κ m (m.crash keep torn).2 := by
  unfold f36 Mo.crash
  rw [bindR_eq f97_is]
  cases hd : m.down with
  | true =>
    refine ⟨fs, lo, n, N, row, ?_, h, .rfl' fun _ h => h⟩
    show some _ = some _
    simp [hd]
  | false =>
    simp only [Bool.false_eq_true, if_false]
    rw [ifB_f bnot_eq, bindR_eq (f98_is hk)]
    have hn := h.len
    have hadd : stdOps.ar .add .i64 n 1 = ((m.P.length + 1 : Nat) : Int) := by rw [hn]; exact add1 (by omega)
    have hrem : stdOps.ar .rem .i64 (bare keep : Int) (stdOps.ar .add .i64 n 1) = ((bare keep % (m.P.length + 1) : Nat) : Int) := by rw [hadd]; rfl
    have hlt : bare keep % (m.P.length + 1) < m.P.length + 1 := Nat.mod_lt _ (by omega)
    obtain ⟨fs2, r, i1, i2, i3⟩ := f36_l0_is hI h hP (by omega : bare keep % (m.P.length + 1) ≤ m.P.length) hrem ht (fuel := fuel) (a6 := N) (a3 := most) (a7 := false) (a8 := es) m.P [] fuel fs rfl hf (by simp)
      ⟨rfl, fun x hx => h.get x hx, fun _ _ => rfl⟩
    have hnames : Mo.names ⟨m.L.map fun x => (x.1, seen (kept m.P keep torn) x.1 x.2), [], m.most, true⟩ = m.names := by
      unfold Mo.names
      rw [List.map_map]; rfl
    refine ⟨fs2, 0, 0, 0, [], ?_, ⟨rfl, rfl, Int.le_refl _, ⟨[], rfl⟩, by rw [hnames]; exact h.es, by rw [hnames]; exact h.inj, ?_⟩, by rw [i3.len]; exact Nat.le_refl _, fun k _ hk => i3.old k hk, ?_⟩
    · refine req_is (by rw [hadd]; show ((m.P.length + 1 : Nat) : Int) ≠ 0; omega) (bindR_is i1 ?_)
      rcases i2 with rfl | rfl <;> rfl
    · intro x hx
      obtain ⟨y, hy, rfl⟩ := List.mem_map.1 hx
      exact i3.get y hy
    · rintro k ⟨a, ha, e⟩
      rw [hnames] at ha
      exact .inl ⟨a, ha, e⟩
theorem f37_is (h : Rs fs κ m lo n N es row) {fuel : Nat} {A : List AV} {most : Int} : f37 stdOps fuel A most lo n N m.down es row = some (.v0 m.start.1 m.start.2.down) ∧ Rs fs κ m.start.2 lo n N es row ∧ Fr fs fs κ κ m m.start.2 := by
  unfold f37 Mo.start
  rw [bindR_eq f96_is]
  cases hd : m.down with
  | true => exact ⟨rfl, ⟨h.lo0, h.len, h.cap, h.row, h.es, h.inj, h.get⟩, .rfl' fun _ h => h⟩
  | false => exact ⟨by simp [hd]; rfl, h, .rfl' fun _ h => h⟩
end
end Go.Proofs.Ytjdbmfipciadfaa.A
namespace Go.Proofs.Ytjdbmfipciadfaa.A
open Go Go.Pt
def lav (x : ByteArray × List AV) : AV := .agg [.str x.1, .sl 1 x.2 .no]
def qav (p : Pw) : AV := .agg [.str p.n, .int .i64 p.i, .sl 1 p.b .no]
theorem get0 {β : Type} {f : β → AV} {l : List β} {i : Nat} {v : β} (h : l[i]? = some v) : stdOps.get (l.map f) (stdOps.sum 0 (i : Int)) = some (f v) ∧ stdOps.inb (stdOps.sum 0 (i : Int)) (stdOps.len (l.map f)) ∧ stdOps.inb (i : Int) (l.length : Int) := by
  have hl := (List.getElem?_eq_some_iff.1 h).1
  obtain ⟨h1, h2⟩ := get_row (row := l.map f) (i := i) (v := f v) (by rw [List.getElem?_map, h]; rfl)
  exact ⟨h1, h2, show (0 : Int) ≤ i ∧ (i : Int) < l.length by omega⟩
theorem sub_front {A C : List AV} : stdOps.sub (A ++ C) 0 (stdOps.sum 0 (A.length : Int)) = A := by
  show ((A ++ C).take ((0 : Int) + A.length).toNat).drop 0 = A
  rw [List.drop_zero, show ((0 : Int) + A.length).toNat = A.length by omega, List.take_left]
theorem sub_all {A : List AV} : stdOps.sub A 0 (stdOps.len A) = A := by
  show (A.take ((A.length : Int)).toNat).drop 0 = A
  rw [List.drop_zero, Int.toNat_natCast, List.take_length]
theorem sub_all0 {A : List AV} : stdOps.sub A 0 (stdOps.sum 0 (stdOps.len A)) = A := by
  rw [show stdOps.sum 0 (stdOps.len A) = stdOps.len A by simp [stdOps]]; exact sub_all
theorem sub_back {A C : List AV} {q t : Int} (hq : q = A.length) (ht : t = (A ++ C).length) : stdOps.sub (A ++ C) q t = C := by
  show ((A ++ C).take t.toNat).drop q.toNat = C
  rw [ht, hq, Int.toNat_natCast, Int.toNat_natCast, List.take_length, List.drop_left]
theorem room_ok {xs ys : List AV} {b : Nat} (h : (xs.length + ys.length) * b ≤ 2 ^ 47) : stdOps.room xs ys b := h
section
variable {m : Mo}
theorem split_name (hI : Iv m) {name : ByteArray} (hn : name ∈ m.names) : ∃ A C, m.L = A ++ (name, m.sure name) :: C ∧ (∀ y ∈ A, y.1 ≠ name) ∧ ∀ y ∈ C, y.1 ≠ name := by
  obtain ⟨A, C, hs⟩ := List.append_of_mem (Mo.mem_sure hI.nodup hn)
  have hnd := hI.nodup
  unfold Mo.names at hnd
  rw [hs, List.map_append, List.map_cons, List.nodup_append] at hnd
  obtain ⟨_, h2, h3⟩ := hnd
  rw [List.nodup_cons] at h2
  refine ⟨A, C, hs, fun y hy e => ?_, fun y hy e => h2.1 (List.mem_map.2 ⟨y, hy, e⟩)⟩
  exact h3 y.1 (List.mem_map_of_mem hy) name List.mem_cons_self e
theorem f142_l0_is {L : List (ByteArray × List AV)} (hL : L.length < 2 ^ 42) {name : ByteArray} {fuel : Nat} {a1 a11 : List AV} {a4 a5 a6 a7 a8 : Int} {a9 : Bool} : ∀ (rest pre : List (ByteArray × List AV)) (f : Nat), L = pre ++ rest → rest.length < f → (∀ y ∈ pre, y.1 ≠ name) →
    ((name ∉ rest.map Prod.fst → f142_l0 stdOps fuel L.length 0 (L.map lav) name a1 a4 a5 a6 a7 a8 a9 a11 f pre.length = some .x1) ∧
      ∀ A x C, rest = A ++ x :: C → x.1 = name → (∀ y ∈ A, y.1 ≠ name) → f142_l0 stdOps fuel L.length 0 (L.map lav) name a1 a4 a5 a6 a7 a8 a9 a11 f pre.length = some (.x0 ((pre ++ A).length : Int)))
  | [], pre, f + 1, hp, hf, ha => by
    refine ⟨fun _ => ?_, fun A x C h => by simp at h⟩
    rw [f142_l0]
    exact ifB_is_f (lss_f (by rw [hp]; simp)) rfl
  | y :: rest, pre, f + 1, hp, hf, ha => by
    have hi : pre.length < L.length := by rw [hp]; simp
    obtain ⟨g1, g2, g3⟩ := get0 (f := lav) (l := L) (i := pre.length) (v := y) (by rw [hp]; simp)
    have hidx : stdOps.ar .add .i64 (pre.length : Int) 1 = ((pre ++ [y]).length : Int) := by rw [add1 (by omega)]; simp
    by_cases e : y.1 = name
    · refine ⟨fun h => absurd (by rw [← e]; simp) h, fun A x C h hx hA => ?_⟩
      have hA0 : A = [] := by
        cases A with
        | nil => rfl
        | cons z A =>
          rw [List.cons_append, List.cons.injEq] at h
          exact absurd (h.1 ▸ e) (hA z List.mem_cons_self)
      subst hA0
      rw [f142_l0]
      refine ifB_is_t (lss_t hi) <| req_is g3 <| req_is g2 <| getA_is g1 ?_
      simp only [lav, sh164]
      exact ifB_is_t (by rw [seq_is, e]; simp) (by simp)
    · obtain ⟨i1, i2⟩ := f142_l0_is hL (name := name) (fuel := fuel) (a1 := a1) (a11 := a11) (a4 := a4) (a5 := a5) (a6 := a6) (a7 := a7) (a8 := a8) (a9 := a9) rest (pre ++ [y]) f (by simpa using hp) (by simp at hf; omega) (fun z hz => by
        rcases List.mem_append.1 hz with hz | hz
        · exact ha z hz
        · rw [List.mem_singleton.1 hz]; exact e)
      rw [hidx.symm] at i1 i2
      have step : ∀ {r}, f142_l0 stdOps fuel L.length 0 (L.map lav) name a1 a4 a5 a6 a7 a8 a9 a11 f (stdOps.ar .add .i64 (pre.length : Int) 1) = some r → f142_l0 stdOps fuel L.length 0 (L.map lav) name a1 a4 a5 a6 a7 a8 a9 a11 (f + 1) pre.length = some r := by
        intro r hr
        rw [f142_l0]
        refine ifB_is_t (lss_t hi) <| req_is g3 <| req_is g2 <| getA_is g1 ?_
        simp only [lav, sh164]
        exact ifB_is_f (by rw [seq_is, decide_eq_false_iff_not]; exact e) hr
      refine ⟨fun h => step (i1 fun hm => h (List.mem_cons_of_mem _ hm)), fun A x C h hx hA => ?_⟩
      cases A with
      | nil =>
        rw [List.nil_append, List.cons.injEq] at h
        exact absurd (h.1 ▸ hx) e
      | cons z A =>
        rw [List.cons_append, List.cons.injEq] at h
        have := step (i2 A x C h.2 hx fun w hw => hA w (List.mem_cons_of_mem _ hw))
        rw [← h.1]
        simpa using this
theorem f142_no {L : List (ByteArray × List AV)} (hL : L.length < 2 ^ 42) {name : ByteArray} {fuel : Nat} (hf : L.length < fuel) {a1 a11 : List AV} {a4 a5 a6 a7 a8 : Int} {a9 : Bool} (h : name ∉ L.map Prod.fst) :
    f142 stdOps fuel name a1 0 L.length a4 a5 a6 a7 a8 a9 (L.map lav) a11 = some (.v0 (-1)) := by
  unfold f142
  exact bindR_is ((f142_l0_is hL L [] fuel rfl hf (by simp)).1 h) rfl
theorem f142_at {L : List (ByteArray × List AV)} (hL : L.length < 2 ^ 42) {name : ByteArray} {fuel : Nat} (hf : L.length < fuel) {a1 a11 : List AV} {a4 a5 a6 a7 a8 : Int} {a9 : Bool} {A C : List (ByteArray × List AV)} {b : List AV} (h : L = A ++ (name, b) :: C) (hA : ∀ y ∈ A, y.1 ≠ name) :
    f142 stdOps fuel name a1 0 L.length a4 a5 a6 a7 a8 a9 (L.map lav) a11 = some (.v0 (A.length : Int)) := by
  unfold f142
  have := (f142_l0_is hL (name := name) (fuel := fuel) (a1 := a1) (a11 := a11) (a4 := a4) (a5 := a5) (a6 := a6) (a7 := a7) (a8 := a8) (a9 := a9) L [] fuel rfl hf (by simp)).2 A (name, b) C h rfl hA
  exact bindR_is this (by simp)
theorem f144_is (hI : Iv m) {name : ByteArray} {fuel : Nat} (hf : 5000 < fuel) {A : List AV} {a4 a5 a6 a7 a8 : Int} {a11 : List AV} :
    f144 stdOps fuel name A 0 m.L.length a4 a5 a6 a7 a8 m.down (m.L.map lav) a11 = some (.v0 (m.fnd name)) := by
  have hmx := hI.max
  unfold f144 Mo.fnd
  cases m.down with
  | true => rfl
  | false =>
    refine ifB_is_f rfl ?_
    by_cases hn : name ∈ m.names
    · obtain ⟨B, C, h1, h2, _⟩ := split_name hI hn
      refine bindR_is (f142_at (by omega) (by omega) h1 h2) ?_
      simp only [hn, if_true]
      exact ifB_is_f (by simp only [stdOps, decide_eq_false_iff_not]; omega) rfl
    · refine bindR_is (f142_no (by omega) (by omega) hn) ?_
      simp only [hn, if_false]
      exact ifB_is_t (by decide) rfl
theorem f147_is {fuel : Nat} {b x : List AV} {i : Int} {A : List AV} (h0 : 0 ≤ i) (h1 : i ≤ b.length) (hb : b.length ≤ 2 ^ 30) (hx : x.length ≤ 2 ^ 30) : f147 stdOps fuel b i x A = some (.v0 (ov b i.toNat x)) := by
  have hs : stdOps.apnd (stdOps.apnd [] (stdOps.sub b 0 i)) x = b.take i.toNat ++ x := rfl
  have hl : (b.take i.toNat ++ x).length = i.toNat + x.length := by simp; omega
  unfold f147
  rw [hs]
  refine req_is h0 <| req_is h1 <| req_is (room_ok (show (([] : List AV).length + (b.take i.toNat).length) * 1 ≤ 2 ^ 47 by simp; omega)) <| req_is (room_ok (show ((b.take i.toNat).length + x.length) * 1 ≤ 2 ^ 47 by simp; omega)) ?_
  by_cases hlt : i.toNat + x.length < b.length
  · have hd : stdOps.drop b (stdOps.len (b.take i.toNat ++ x)) = b.drop (i.toNat + x.length) := by
      show b.drop ((b.take i.toNat ++ x).length : Int).toNat = _
      rw [Int.toNat_natCast, hl]
    rw [hd]
    refine ifB_is_t (by rw [len_is, len_is, hl]; exact lss_t hlt) <| req_is (show (0 : Int) ≤ ((b.take i.toNat ++ x).length : Int) by omega) <| req_is (show ((b.take i.toNat ++ x).length : Int) ≤ (b.length : Int) by omega) <|
      req_is (room_ok (by rw [hl, List.length_drop]; omega)) rfl
  · refine ifB_is_f (by rw [len_is, len_is, hl]; exact lss_f hlt) ?_
    unfold ov
    rw [List.drop_of_length_le (by omega), List.append_nil]
theorem f145_l0_is (hI : Iv m) (hP : m.P.length < 2 ^ 42) {name : ByteArray} {fuel : Nat} {A a10 : List AV} {a2 a3 a4 a7 a8 : Int} {a9 : Bool} : ∀ (rest pre : List Pw) (f : Nat) (w : List AV), m.P = pre ++ rest → rest.length < f → okW rest name w → (seen rest name w).length ≤ 2 ^ 22 →
    f145_l0 stdOps fuel m.P.length 0 (m.P.map qav) name A a2 a3 a4 a7 a8 a9 a10 f w pre.length = some (.x0 (seen rest name w))
  | [], pre, f + 1, w, hp, hf, hok, hl => by
    rw [f145_l0]
    exact ifB_is_f (lss_f (by rw [hp]; simp)) rfl
  | p :: rest, pre, f + 1, w, hp, hf, hok, hl => by
    have hi : pre.length < m.P.length := by rw [hp]; simp
    have hpm : p ∈ m.P := by rw [hp]; simp
    obtain ⟨g1, g2, g3⟩ := get0 (f := qav) (l := m.P) (i := pre.length) (v := p) (by rw [hp]; simp)
    have hidx : stdOps.ar .add .i64 (pre.length : Int) 1 = ((pre ++ [p]).length : Int) := by rw [add1 (by omega)]; simp
    have ih := f145_l0_is hI hP (name := name) (fuel := fuel) (A := A) (a10 := a10) (a2 := a2) (a3 := a3) (a4 := a4) (a7 := a7) (a8 := a8) (a9 := a9) rest (pre ++ [p]) f (seen1 name w p) (by simpa using hp) (by simp at hf; omega) hok.2 hl
    have hss : seen (p :: rest) name w = seen rest name (seen1 name w p) := rfl
    rw [f145_l0, hidx, hss]
    refine ifB_is_t (lss_t hi) <| req_is g3 <| req_is g2 <| getA_is g1 ?_
    simp only [qav, sh158]
    by_cases e : p.n = name
    · have hle := hok.1 e
      have hw := seen_le hok
      have hpb := hI.pb p hpm
      have hs : seen1 name w p = ov w p.i.toNat p.b := if_pos e
      refine ifB_is_t (by rw [seq_is, e]; simp) <| req_is g3 <| req_is g2 <| getA_is g1 ?_
      refine req_is g3 <| req_is g2 <| getA_is g1 ?_
      refine bindR_is (f147_is hle.1 hle.2 (by omega) (by omega)) ?_
      rw [← hs]; exact ih
    · have hs : seen1 name w p = w := if_neg e
      rw [hs] at ih ⊢
      exact ifB_is_f (by rw [seq_is, decide_eq_false_iff_not]; exact e) ih
theorem f145_is (hI : Iv m) (hP : m.P.length < 2 ^ 42) {name : ByteArray} (hn : name ∈ m.names) {fuel : Nat} (hf : 5000 < fuel) (hf2 : m.P.length < fuel) {A : List AV} {a4 a7 a8 : Int} {a9 : Bool} :
    f145 stdOps fuel name A 0 m.L.length a4 0 m.P.length a7 a8 a9 (m.L.map lav) (m.P.map qav) = some (.v0 (m.all name)) := by
  have hmx := hI.max
  obtain ⟨B, C, h1, h2, _⟩ := split_name hI hn
  obtain ⟨g1, g2, g3⟩ := get0 (f := lav) (l := m.L) (i := B.length) (v := (name, m.sure name)) (by rw [h1]; simp)
  have hmem := Mo.mem_sure hI.nodup hn
  unfold f145
  refine bindR_is (f142_at (by omega) (by omega) h1 h2) <| req_is g3 <| req_is g2 <| getA_is g1 ?_
  simp only [lav, sh164]
  exact bindR_is (f145_l0_is hI hP m.P [] fuel (m.sure name) rfl hf2 (hI.ok _ hmem) (hI.seen_le hmem)) rfl
theorem f120_l0_is (hI : Iv m) (hP : m.P.length < 2 ^ 42) {fuel : Nat} (hf : 5000 < fuel) (hf2 : m.P.length < fuel) {A : List AV} {a3 a6 : Int} {a8 : Bool} : ∀ (rest pre : List (ByteArray × List AV)) (f : Nat) (w : Int), m.L = pre ++ rest → rest.length < f → w = m.most - (pre.map fun x => (seen m.P x.1 x.2).length).sum →
    f120_l0 stdOps fuel m.L.length 0 (m.L.map lav) A a3 0 m.P.length a6 m.most a8 (m.P.map qav) f w pre.length = some (.x0 m.left)
  | [], pre, f + 1, w, hp, hf', hw => by
    rw [f120_l0]
    refine ifB_is_f (lss_f (by rw [hp]; simp)) ?_
    rw [hw, Mo.left, Mo.used, hp, List.append_nil]
  | x :: rest, pre, f + 1, w, hp, hf', hw => by
    have hi : pre.length < m.L.length := by rw [hp]; simp
    have hx : x ∈ m.L := by rw [hp]; simp
    have hxn : x.1 ∈ m.names := List.mem_map_of_mem hx
    obtain ⟨g1, g2, g3⟩ := get0 (f := lav) (l := m.L) (i := pre.length) (v := x) (by rw [hp]; simp)
    have hu := hI.left
    have hm1 := hI.m1
    have hm0 := hI.m0
    have hmx := hI.max
    have hsum : (pre.map fun x => (seen m.P x.1 x.2).length).sum + (seen m.P x.1 x.2).length ≤ m.used := by
      rw [Mo.used, hp, List.map_append, List.sum_append, List.map_cons, List.sum_cons]; omega
    have hall : m.all x.1 = seen m.P x.1 x.2 := by unfold Mo.all; rw [Mo.sure_of hI.nodup (show (x.1, x.2) ∈ m.L from hx)]
    have hsub : stdOps.ar .sub .i64 w (stdOps.len (seen m.P x.1 x.2)) = w - (seen m.P x.1 x.2).length := wr_i64 (by rw [len_is]; omega) (by rw [len_is]; omega)
    have ih := f120_l0_is hI hP hf hf2 (A := A) (a3 := a3) (a6 := a6) (a8 := a8) rest (pre ++ [x]) f (w - (seen m.P x.1 x.2).length) (by simpa using hp) (by simp at hf'; omega) (by rw [hw]; simp; omega)
    have hidx : stdOps.ar .add .i64 (pre.length : Int) 1 = ((pre ++ [x]).length : Int) := by rw [add1 (by omega)]; simp
    rw [f120_l0, hidx]
    refine ifB_is_t (lss_t hi) <| req_is g3 <| req_is g2 <| getA_is g1 ?_
    simp only [lav, sh164]
    refine bindR_is (f145_is hI hP hxn hf hf2) ?_
    simp only
    rw [hall, hsub]; exact ih
theorem f120_is (hI : Iv m) (hP : m.P.length < 2 ^ 42) {fuel : Nat} (hf : 5000 < fuel) (hf2 : m.P.length < fuel) {A : List AV} {a3 a6 : Int} {a8 : Bool} :
    f120 stdOps fuel A 0 m.L.length a3 0 m.P.length a6 m.most a8 (m.L.map lav) (m.P.map qav) = some (.v0 m.left) := by
  have hmx := hI.max
  unfold f120
  exact bindR_is (f120_l0_is hI hP hf hf2 m.L [] fuel m.most rfl (by omega) (by simp)) rfl
variable {A : List AV} {fuel : Nat}
theorem mem_tw {β : Type} {p : β → Bool} {y : β} : ∀ {l : List β}, y ∈ l.takeWhile p → p y = true
  | x :: l, h => by
    rw [List.takeWhile_cons] at h
    split at h
    · rename_i hx
      rcases List.mem_cons.1 h with rfl | h
      · exact hx
      · exact mem_tw h
    · cases h
theorem insL_parts (n : ByteArray) (b : List AV) (L : List (ByteArray × List AV)) : ∃ B C, L = B ++ C ∧ insL n b L = B ++ (n, b) :: C ∧ (∀ y ∈ B, decide (bl y.1 < bl n) = true) ∧ ∀ z D, C = z :: D → decide (bl z.1 < bl n) = false := by
  refine ⟨_, _, (List.takeWhile_append_dropWhile (p := fun x => decide (bl x.1 < bl n)) (l := L)).symm, rfl, fun y hy => ?_, fun z D hz => ?_⟩
  · exact mem_tw (p := fun x : ByteArray × List AV => decide (bl x.1 < bl n)) hy
  · have := List.head_dropWhile_not (fun x : ByteArray × List AV => decide (bl x.1 < bl n)) (l := L) (by rw [hz]; simp)
    simpa [hz] using this
theorem f143_l0_is {L : List (ByteArray × List AV)} (hL : L.length < 2 ^ 42) {name : ByteArray} {a2 a12 a1 : List AV} {a5 a6 a7 a8 a9 : Int} {a10 : Bool} {C : List (ByteArray × List AV)} (hC : ∀ z D, C = z :: D → decide (bl z.1 < bl name) = false) :
    ∀ (rest pre : List (ByteArray × List AV)) (f : Nat), L = pre ++ rest ++ C → rest.length + 1 < f → (∀ y ∈ rest, decide (bl y.1 < bl name) = true) →
    f143_l0 stdOps fuel L.length 0 (L.map lav) name a2 a5 a6 a7 a8 a9 a10 a12 a1 f pre.length = some (.x0 ((pre ++ rest).length : Int))
  | [], pre, f + 1, hp, hf, hr => by
    rw [f143_l0, List.append_nil]
    cases C with
    | nil => exact ifB_is_f (lss_f (by rw [hp]; simp)) rfl
    | cons z D =>
      have hi : pre.length < L.length := by rw [hp]; simp
      obtain ⟨g1, g2, g3⟩ := get0 (f := lav) (l := L) (i := pre.length) (v := z) (by rw [hp]; simp)
      refine ifB_is_t (lss_t hi) <| req_is g3 <| req_is g2 <| getA_is g1 ?_
      simp only [lav, sh164]
      rw [scmp_is, hC z D rfl, lss_t hi]; rfl
  | y :: rest, pre, f + 1, hp, hf, hr => by
    have hi : pre.length < L.length := by rw [hp]; simp
    obtain ⟨g1, g2, g3⟩ := get0 (f := lav) (l := L) (i := pre.length) (v := y) (by rw [hp]; simp)
    have hidx : stdOps.ar .add .i64 (pre.length : Int) 1 = ((pre ++ [y]).length : Int) := by rw [add1 (by omega)]; simp
    have ih := f143_l0_is hL (name := name) (a2 := a2) (a12 := a12) (a1 := a1) (a5 := a5) (a6 := a6) (a7 := a7) (a8 := a8) (a9 := a9) (a10 := a10) hC rest (pre ++ [y]) f (by simpa using hp) (by simp at hf; omega) (fun z hz => hr z (List.mem_cons_of_mem _ hz))
    rw [f143_l0, hidx]
    refine ifB_is_t (lss_t hi) <| req_is g3 <| req_is g2 <| getA_is g1 ?_
    simp only [lav, sh164]
    rw [scmp_is, hr y List.mem_cons_self, lss_t hi]
    have : pre ++ y :: rest = pre ++ [y] ++ rest := by simp
    rw [this]; exact ih
theorem f143_is {L : List (ByteArray × List AV)} (hL : L.length ≤ 2 ^ 30) (hf : L.length + 1 < fuel) {name : ByteArray} {b : List AV} {a6 a7 a8 a9 : Int} {a10 : Bool} {a12 : List AV} :
    f143 stdOps fuel name b A 0 L.length L.length a6 a7 a8 a9 a10 (L.map lav) a12 = some (.v0 0 (insL name b L).length (insL name b L).length ((insL name b L).map lav)) := by
  obtain ⟨B, C, h1, h2, h3, h4⟩ := insL_parts name b L
  rw [h2]
  have hLm : L.map lav = B.map lav ++ C.map lav := by rw [h1, List.map_append]
  have hll : L.length = B.length + C.length := by rw [h1, List.length_append]
  have hl := f143_l0_is (fuel := fuel) (by omega : L.length < 2 ^ 42) (name := name) (a2 := A) (a12 := a12) (a1 := b) (a5 := L.length) (a6 := a6) (a7 := a7) (a8 := a8) (a9 := a9) (a10 := a10) h4 B [] fuel (by simpa using h1) (by omega) h3
  unfold f143
  refine bindR_is hl ?_
  simp only [List.nil_append]
  have e1 : stdOps.sub (L.map lav) 0 (stdOps.sum 0 (B.length : Int)) = B.map lav := by
    have := sub_front (A := B.map lav) (C := C.map lav)
    rwa [← hLm, List.length_map] at this
  have e3 : stdOps.sub (L.map lav) (stdOps.sum 0 (B.length : Int)) (stdOps.sum (stdOps.sum 0 (B.length : Int)) (stdOps.dif (L.length : Int) (B.length : Int))) = C.map lav := by
    rw [hLm]
    refine sub_back ?_ ?_
    · show (0 : Int) + B.length = _; simp
    · show (0 : Int) + B.length + ((L.length : Int) - B.length) = _; simp; omega
  have hn : stdOps.apnd (stdOps.apnd (B.map lav) [.agg [.str name, .sl 1 b .no]]) (C.map lav) = (B ++ (name, b) :: C).map lav := by
    show B.map lav ++ [_] ++ C.map lav = _
    simp [lav]
  have hlen : stdOps.len ((B ++ (name, b) :: C).map lav) = ((B ++ (name, b) :: C).length : Int) := by simp [stdOps]
  rw [e1, e3, sub_all, sub_all, hn, hlen]
  refine req_is (show (0 : Int) ≤ B.length by omega) <| req_is (show (0 : Int) + (B.length : Int) ≤ L.length by omega) <| req_is (show (0 : Int) ≤ 0 by omega) <| req_is (show (0 : Int) ≤ B.length by omega) <| req_is (show (0 : Int) + (B.length : Int) ≤ ((L.map lav).length : Int) by simp; omega) <|
    req_is rfl <| req_is (room_ok (by simp; omega)) <| req_is rfl <| req_is (show (0 : Int) ≤ ((B.map lav).length : Int) by omega) <| req_is (Int.le_refl _) <| req_is (room_ok (by simp; omega)) <| req_is (show (0 : Int) ≤ B.length by omega) <| req_is (show (B.length : Int) ≤ L.length by omega) <|
    req_is (show (0 : Int) ≤ 0 + (B.length : Int) by omega) <| req_is (show (0 : Int) ≤ (L.length : Int) - B.length by omega) <| req_is (show (0 : Int) + B.length + ((L.length : Int) - B.length) ≤ ((L.map lav).length : Int) by simp; omega) <| req_is rfl <|
    req_is (show (0 : Int) ≤ ((stdOps.apnd (B.map lav) [.agg [.str name, .sl 1 b .no]]).length : Int) by omega) <| req_is (Int.le_refl _) <| req_is (room_ok (by simp [stdOps]; omega)) rfl
theorem insL_length {n : ByteArray} {b : List AV} {L : List (ByteArray × List AV)} : (insL n b L).length = L.length + 1 := (insL_perm n b L).length_eq
theorem f110_is (hI : Iv m) (hf : 5000 < fuel) {name : ByteArray} {a5 a6 a7 a8 : Int} {a11 : List AV} :
    f110 stdOps fuel name A 0 m.L.length m.L.length a5 a6 a7 a8 m.down (m.L.map lav) a11 = some (.v0 (m.create name).1 0 (m.create name).2.L.length (m.create name).2.L.length ((m.create name).2.L.map lav)) := by
  have hmx := hI.max
  unfold f110 Mo.create
  cases hd : m.down with
  | true => rfl
  | false =>
    simp only [Bool.false_eq_true, if_false]
    rw [ifB_f rfl, seq_is]
    by_cases h1 : name = emp0
    · rw [ifB_t (by rw [h1]; rfl), if_pos (.inl h1)]
    · rw [ifB_f (by rw [decide_eq_false_iff_not]; exact h1)]
      by_cases h2 : name ∈ m.names
      · rw [if_pos (.inr h2)]
        obtain ⟨B, C, q1, q2, _⟩ := split_name hI h2
        refine bindR_is (f142_at (by omega) (by omega) q1 q2) ?_
        exact ifB_is_t (by simp only [stdOps, decide_eq_true_eq]; omega) rfl
      · rw [if_neg (fun e => e.elim h1 h2)]
        refine bindR_is (f142_no (by omega) (by omega) h2) ?_
        refine ifB_is_f (by decide) ?_
        by_cases h3 : 4096 ≤ m.L.length
        · rw [if_pos h3]
          exact ifB_is_t (by simp only [stdOps, decide_eq_true_eq]; omega) rfl
        · rw [if_neg h3]
          refine ifB_is_f (by simp only [stdOps, decide_eq_false_iff_not]; omega) ?_
          exact bindR_is (f143_is (by omega) (by omega)) rfl
theorem f111_is (hI : Iv m) (hP : (m.P.length + 1) * 48 ≤ 2 ^ 47) (hf : 5000 < fuel) (hf2 : m.P.length < fuel) {name : ByteArray} {i : Int} {b : List AV} (hb : b.length ≤ 2 ^ 47) :
    f111 stdOps fuel name i b A 0 m.L.length m.L.length 0 m.P.length m.P.length m.most m.down (m.L.map lav) (m.P.map qav) = some (.v0 (m.write name i b).1 0 (m.write name i b).2.P.length (m.write name i b).2.P.length ((m.write name i b).2.P.map qav)) := by
  have hP' : m.P.length < 2 ^ 42 := by omega
  unfold f111 Mo.write
  rw [bindR_eq (f144_is hI hf)]
  simp only
  by_cases h0 : m.fnd name = 0
  · rw [if_neg (by simpa using h0), h0, ifB_f bnot_eq]
    have hm : name ∈ m.names := by
      unfold Mo.fnd at h0
      by_cases hd : m.down = true
      · rw [if_pos hd] at h0; simp at h0
      · rw [if_neg hd] at h0
        by_cases hn : name ∈ m.names
        · exact hn
        · rw [if_neg hn] at h0; simp at h0
    have hal := hI.all_le hm
    rw [bindR_eq (f145_is hI hP' hm hf hf2)]
    simp only
    by_cases h1 : i < 0 ∨ ((m.all name).length : Int) < i
    · rw [if_pos h1]
      refine ifB_is_t ?_ rfl
      simp only [stdOps]
      rcases h1 with h1 | h1 <;> simp [h1]
    · rw [if_neg h1]
      have h2 : ¬ i < 0 := fun e => h1 (.inl e)
      have h3 : ¬ i > ((m.all name).length : Int) := fun e => h1 (.inr e)
      have hg : stdOps.pick (stdOps.cmp .lss i 0) true (stdOps.cmp .gtr i (stdOps.len (m.all name))) = false := by
        simp only [stdOps]
        simp [h2, h3]
      have hsub : stdOps.ar .sub .i64 (stdOps.len (m.all name)) i = ((m.all name).length : Int) - i := wr_i64 (by rw [len_is]; omega) (by rw [len_is]; omega)
      have hsub2 : stdOps.ar .sub .i64 (stdOps.len b) (((m.all name).length : Int) - i) = (b.length : Int) - ((m.all name).length - i) := wr_i64 (by rw [len_is]; omega) (by rw [len_is]; omega)
      have hl0 := hI.left
      have hlm : 0 ≤ m.left := by unfold Mo.left; omega
      have fin : b ≠ [] → req (stdOps.room [] b 1) (req (stdOps.is 0 0) (req (stdOps.le 0 (m.P.length : Int)) (req (stdOps.le (m.P.length : Int) (stdOps.len (m.P.map qav))) (req (stdOps.room (stdOps.sub (m.P.map qav) 0 (m.P.length : Int)) [.agg [.str name, .int .i64 i, .sl 1 (stdOps.apnd [] b) .no]] 48)
          (some (F111R.v0 0 0 (stdOps.len (stdOps.apnd (stdOps.sub (m.P.map qav) 0 (m.P.length : Int)) [.agg [.str name, .int .i64 i, .sl 1 (stdOps.apnd [] b) .no]])) (stdOps.len (stdOps.apnd (stdOps.sub (m.P.map qav) 0 (m.P.length : Int)) [.agg [.str name, .int .i64 i, .sl 1 (stdOps.apnd [] b) .no]])) (stdOps.apnd (stdOps.sub (m.P.map qav) 0 (m.P.length : Int)) [.agg [.str name, .int .i64 i, .sl 1 (stdOps.apnd [] b) .no]]))))))) =
          some (F111R.v0 0 0 ((m.P ++ [Pw.mk name i b]).length : Int) ((m.P ++ [Pw.mk name i b]).length : Int) ((m.P ++ [Pw.mk name i b]).map qav)) := fun _ => by
        have e1 : stdOps.sub (m.P.map qav) 0 (m.P.length : Int) = m.P.map qav := by
          have := sub_all (A := m.P.map qav)
          rwa [len_is, List.length_map] at this
        have e2 : stdOps.apnd (m.P.map qav) [.agg [.str name, .int .i64 i, .sl 1 (stdOps.apnd [] b) .no]] = (m.P ++ [Pw.mk name i b]).map qav := by
          rw [List.map_append]; rfl
        rw [e1, e2, len_is, len_is, List.length_map, List.length_map]
        exact req_is (room_ok (by simp; omega)) <| req_is rfl <| req_is (show (0 : Int) ≤ m.P.length by omega) <| req_is (Int.le_refl _) <| req_is (room_ok (by simpa using hP)) rfl
      rw [ifB_f hg, hsub, hsub2]
      by_cases h6 : (b.length : Int) - ((m.all name).length - i) > 0
      · rw [ifB_t (by simp only [stdOps, decide_eq_true_eq]; exact h6), bindR_eq (f120_is hI hP' hf hf2)]
        simp only
        by_cases h4 : m.left < (b.length : Int) - ((m.all name).length - i)
        · rw [if_pos h4]
          exact ifB_is_t (by simp only [stdOps, decide_eq_true_eq]; omega) rfl
        · rw [if_neg h4, ifB_f (by simp only [stdOps, decide_eq_false_iff_not]; omega)]
          by_cases h5 : b = []
          · rw [if_pos h5]
            exact ifB_is_f (by subst h5; rfl) rfl
          · rw [if_neg h5]
            have hbl : 0 < b.length := List.length_pos_iff.2 h5
            exact ifB_is_t (by simp only [stdOps, decide_eq_true_eq]; omega) (fin h5)
      · rw [ifB_f (by simp only [stdOps, decide_eq_false_iff_not]; exact h6), if_neg (by omega)]
        by_cases h5 : b = []
        · rw [if_pos h5]
          exact ifB_is_f (by subst h5; rfl) rfl
        · rw [if_neg h5]
          have hbl : 0 < b.length := List.length_pos_iff.2 h5
          exact ifB_is_t (by simp only [stdOps, decide_eq_true_eq]; omega) (fin h5)
  · rw [if_pos h0]
    exact ifB_is_t (bnot_ne h0) rfl
end
end Go.Proofs.Ytjdbmfipciadfaa.A
