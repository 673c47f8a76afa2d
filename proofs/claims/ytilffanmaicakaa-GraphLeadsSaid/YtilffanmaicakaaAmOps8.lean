/- Each operation that the abstract machine does is one that the model does: maps. -/
import Derived.Test.YtilffanmaicakaaAmOps7
import Derived.MapKept
import Derived.RangeFuncRecord
namespace Go.Pt
open Go

section
variable {P : Program} {n₀ : Nat} {tab : Nat → Ty} {w : World} {ρ : Ro} {s : St} {a : Act} {o : Oper} {K E : AV → List Ent → Prop} {next : Act → World → Prop} {Q : Exit → Act → World → Prop}

theorem shape_leaf {k : TK} {x y : AV} (hx : shape1 k x = true) (hy : shape1 k y = true) : eqLeaf (std P n₀) k x y = some (keqC x y) := by
  cases k <;> cases x <;> (first | (simp [shape1] at hx; done) | skip) <;> cases y <;> (first | (simp [shape1] at hy; done) | skip)
  · rename_i k k1 n1 k2 n2
    have e1 := Nat.eq_of_beq_eq_true hx
    have e2 := Nat.eq_of_beq_eq_true hy
    simp only [eqLeaf, keqC]
    rw [show Nat.beq (kn k1) (kn k2) = true by rw [← e1, ← e2]; simp]
    rfl
  all_goals rfl

theorem shapes_all : ∀ {ks : List TK} {xs ys : List AV}, shapes ks xs = true → shapes ks ys = true → eqAll (std P n₀) ks xs ys = some (keqL xs ys)
  | [], [], [], _, _ => rfl
  | k :: ks, x :: xs, y :: ys, hx, hy => by
    simp only [shapes] at hx hy
    split at hx
    case h_2 => simp at hx
    rename_i h1
    split at hy
    case h_2 => simp at hy
    rename_i h2
    have ih := shapes_all hx hy
    simp only [eqAll, shape_leaf h1 h2]
    split
    · have : xs = [] := by cases xs with | nil => rfl | cons _ _ => simp [shapes] at hx
      subst this
      have : ys = [] := by cases ys with | nil => rfl | cons _ _ => simp [shapes] at hy
      subst this
      simp [keqL]
    · rw [ih]; rfl
  | [], _ :: _, _, hx, _ => by simp [shapes] at hx
  | [], [], _ :: _, _, hy => by simp [shapes] at hy
  | _ :: _, [], _, hx, _ => by simp [shapes] at hx
  | _ :: _, _ :: _, [], _, hy => by simp [shapes] at hy

theorem key_eqT {T : Ty} {x y : AV} (hl : T.lv ≠ []) (hx : keyOk T.agg T.lv x = true) (hy : keyOk T.agg T.lv y = true) : eqT (std P n₀) T x y = some (keq x y) := by
  unfold eqT
  split
  · rename_i e; exact absurd e hl
  · unfold keyOk at hx hy
    split
    · rename_i ha
      simp only [ha] at hx hy
      cases x <;> (first | (simp at hx; done) | skip)
      cases y <;> (first | (simp at hy; done) | skip)
      simp only at hx hy ⊢
      exact shapes_all hx hy
    · rename_i ha
      simp only [ha] at hx hy
      have one : ∀ {z : AV}, shapes T.lv [z] = true → z.cells = [z] := by
        intro z hz
        cases h : T.lv with
        | nil => exact absurd h hl
        | cons k ks =>
          rw [h] at hz
          simp only [shapes] at hz
          split at hz
          · rename_i h1
            cases z <;> first | rfl | (cases k <;> simp [shape1] at h1)
          · simp at hz
      rw [shapes_all hx hy]
      simp [keq, one hx, one hy]

/-- The model's '==' on keys. -/
theorem run_equalT (ht : TabOk P tab) {t : TypeId} {x y : AV} {v u : Value} {b : Bool} {S : Nat → Nat → Prop} {n : Nat} (h : eqT (std P n₀) (tab t) x y = some b) (hx : Val w S ρ n x v) (hy : Val w S ρ n y u) :
    (Op.equal t v u).run P w = .ok b w := by
  unfold eqT at h
  split at h
  · simp at h
  rename_i ks hks
  have hno : tab t ≠ Ty.no := fun e => by rw [e] at hks; simp [Ty.no] at hks
  obtain ⟨i, d, z, hty⟩ := ht.of hno
  rw [hty.lv] at hks h
  have hlv : P.eqGuardType P.depth t = false ∧ leaves P 8 t = some (lvOf P t) := by
    unfold lvOf at hks ⊢
    split at hks
    · exact absurd rfl hks
    · rename_i hg
      refine ⟨by simpa using hg, ?_⟩
      simp only [hg, if_false, Bool.false_eq_true]
      cases hl : leaves P 8 t with
      | none => rw [hl] at hks; simp at hks
      | some l => simp
  split at h
  · rename_i ha
    have hagg : isAggT P t = true := by rw [hty.agg] at ha; simp [isAggT, hty.und, ha]
    cases x <;> first | (simp at h; done) | skip
    cases y <;> first | (simp at h; done) | skip
    obtain ⟨vs, rfl, h1⟩ := val_agg hx
    obtain ⟨us, rfl, h2⟩ := val_agg hy
    obtain ⟨h3, h4, h5⟩ := all_sound (P := P) h h1 h2
    exact eq_main w 8 hlv.2 10000 (by omega) h4 h5 h3 (x := .agg vs.toArray) (y := .agg us.toArray) (by simp [asVal, hagg]) (by simp [asVal, hagg])
  · rename_i ha
    have hagg : isAggT P t = false := by rw [hty.agg] at ha; simp [isAggT, hty.und, ha]
    obtain ⟨h3, h4, h5⟩ := all_sound (P := P) (vs := [v]) (us := [u]) h ⟨hx, trivial⟩ ⟨hy, trivial⟩
    exact eq_main w 8 hlv.2 10000 (by omega) h4 h5 h3 (x := v) (y := u) (by simp [asVal, hagg]) (by simp [asVal, hagg])

theorem findNow_asking {kt : TypeId} {d : TypeDesc} (hd : P.underlying kt = some d) {v : Value} : ∀ (ms : List MapEntry) (i : Nat) {r : Option (Nat × Value)}, Instr.findNow d v ms i = some r → (Instr.findAsking kt v ms i).run P w = .ok r w
  | [], i, r, h => by simp [Instr.findNow] at h; subst h; simp [Instr.findAsking]
  | m :: ms, i, r, h => by
    simp only [Instr.findNow] at h
    have key : ∀ {b : Bool}, Instr.sameNow d v m.key = some b → (Op.equal kt v m.key).run P w = .ok b w := by
      intro b hb
      refine eq_leaf (P := P) w hd 9999 ?_
      unfold Instr.sameNow at hb
      split at hb
      · split at hb
        · rename_i e; subst e; simp at hb; subst hb; simp_all [eqVL, tkOf]
        · simp at hb
      · simp at hb; subst hb; simp_all [eqVL, tkOf]
      · simp at hb; subst hb; simp_all [eqVL, tkOf]
      · simp at hb
    split at h
    · rename_i hb
      simp at h; subst h
      simp [Instr.findAsking, Sem.run_bind, key hb, Result.andThen]
    · rename_i hb
      simp only [Instr.findAsking, Sem.run_bind, key hb, Result.andThen_ok, Bool.false_eq_true, if_false]
      exact findNow_asking hd ms (i + 1) h
    · simp at h

theorem run_findKey_asking {kt : TypeId} {d : TypeDesc} (hd : P.underlying kt = some d) {v : Value} {ms : List MapEntry} {r : Option (Nat × Value)} (h : (Instr.findAsking kt v ms 0).run P w = .ok r w) : (Instr.findKey kt v ms).run P w = .ok r w := by
  simp only [Instr.findKey, Sem.run_bind, run_underlying hd, Result.andThen_ok]
  cases hf : Instr.findNow d v ms 0 with
  | none => simpa using h
  | some q =>
    have := findNow_asking (w := w) hd ms 0 hf
    rw [h] at this
    simp only [Result.ok.injEq] at this
    rw [this.1]; rfl

/-- Where a key is in a map. -/
theorem find_all {S : Nat → Nat → Prop} {n : Nat} (ht : TabOk P tab) {kt : TypeId} {k : AV} {v : Value} (hl : (tab kt).lv ≠ []) (hk : keyOk (tab kt).agg (tab kt).lv k = true) (hv : Val w S ρ n k v) :
    ∀ {es : List (AV × AV)} {ms : List MapEntry}, All2 (fun (x : AV × AV) (m : MapEntry) => Val w S ρ n x.1 m.key ∧ Val w S ρ n x.2 m.val) es ms → (∀ x ∈ es, keyOk (tab kt).agg (tab kt).lv x.1 = true) →
      (mfind es k = none ∧ (∀ i, (Instr.findAsking kt v ms i).run P w = .ok none w) ∧ (∀ u, mput es k u = es ++ [(k, u)]) ∧ mdel es k = es) ∨
      ∃ j x m, es[j]? = some x ∧ ms[j]? = some m ∧ keq k x.1 = true ∧ mfind es k = some x.2 ∧ (∀ i, (Instr.findAsking kt v ms i).run P w = .ok (some (i + j, m.val)) w) ∧ (∀ u, mput es k u = es.set j (k, u)) ∧ mdel es k = es.eraseIdx j
  | [], [], _, _ => .inl ⟨rfl, fun i => by simp [Instr.findAsking], fun u => rfl, rfl⟩
  | x :: es, m :: ms, h, hs => by
    have he := run_equalT (n₀ := 0) (w := w) ht (key_eqT (P := P) (n₀ := 0) hl hk (hs x List.mem_cons_self)) hv h.1.1
    cases hb : keq k x.1 with
    | true =>
      rw [hb] at he
      exact .inr ⟨0, x, m, rfl, rfl, hb, by simp [mfind, hb], fun i => by simp [Instr.findAsking, Sem.run_bind, he, Result.andThen], fun u => by simp [mput, hb], by simp [mdel, hb]⟩
    | false =>
      rw [hb] at he
      have step : ∀ i, (Instr.findAsking kt v (m :: ms) i).run P w = (Instr.findAsking kt v ms (i + 1)).run P w := fun i => by
        simp [Instr.findAsking, Sem.run_bind, he, Result.andThen]
      rcases find_all ht hl hk hv h.2 (fun y hy => hs y (List.mem_cons_of_mem _ hy)) with ⟨h1, h2, h3, h4⟩ | ⟨j, y, m', h1, h2, h3, h4, h5, h6, h7⟩
      · exact .inl ⟨by simp [mfind, hb, h1], fun i => by rw [step, h2], fun u => by simp [mput, hb, h3], by simp [mdel, hb, h4]⟩
      · exact .inr ⟨j + 1, y, m', by simpa using h1, by simpa using h2, h3, by simp [mfind, hb, h4], fun i => by rw [step, h5, show i + 1 + j = i + (j + 1) by omega], fun u => by simp [mput, hb, h6], by simp [mdel, hb, h7]⟩
  | [], _ :: _, h, _ => h.elim
  | _ :: _, [], h, _ => h.elim

/-- Keys that are the same are the same values. -/
theorem keq_val {S S' : Nat → Nat → Prop} {n n' : Nat} {ρ' : Ro} : ∀ {ks : List TK} {xs ys : List AV} {vs us : List Value}, shapes ks xs = true → shapes ks ys = true → keqL xs ys = true → All2 (Val w S ρ n) xs vs → All2 (Val w S' ρ' n') ys us → vs = us ∧ ∀ v ∈ vs, v.oneCell' = true ∧ ∀ m, Instr.sameBits m v v = true
  | [], [], [], [], [], _, _, _, _, _ => ⟨rfl, by simp⟩
  | k :: ks, x :: xs, y :: ys, v :: vs, u :: us, hx, hy, he, hv, hu => by
    simp only [shapes] at hx hy
    split at hx
    case h_2 => simp at hx
    rename_i h1
    split at hy
    case h_2 => simp at hy
    rename_i h2
    simp only [keqL, Bool.and_eq_true] at he
    obtain ⟨rfl, hall⟩ := keq_val hx hy he.2 hv.2 hu.2
    have hvu : v = u ∧ v.oneCell' = true ∧ ∀ m, Instr.sameBits m v v = true := by
      have hv1 := hv.1
      have hu1 := hu.1
      cases k <;> cases x <;> (first | (simp [shape1] at h1; done) | skip) <;> cases y <;> (first | (simp [shape1] at h2; done) | skip)
      · rename_i k k1 n1 k2 n2
        have e1 := kn_eq h1
        have e2 := kn_eq h2
        subst e1; subst e2
        have := val_int hv1; subst this
        have := val_int hu1; subst this
        have := he.1
        simp only [keqC, beq_iff_eq] at this
        subst this
        exact ⟨rfl, rfl, fun m => by cases m <;> simp [Instr.sameBits]⟩
      all_goals
        first | (have := val_bool hv1; subst this) | (have := val_bl hv1; subst this) | (have := val_str hv1; subst this)
        first | (have := val_bool hu1; subst this) | (have := val_bl hu1; subst this) | (have := val_str hu1; subst this)
        have := he.1
        simp only [keqC, AV.tell, beq_iff_eq] at this
        first | subst this | (have := (MapKept.bytes_beq _ _).1 this; subst this)
        exact ⟨rfl, rfl, fun m => by cases m <;> simp [Instr.sameBits, (MapKept.bytes_beq _ _).2 rfl]⟩
    obtain ⟨rfl, h3, h4⟩ := hvu
    exact ⟨rfl, fun v' hv' => by
      rcases List.mem_cons.1 hv' with rfl | hv'
      · exact ⟨h3, h4⟩
      · exact hall v' hv'⟩
  | [], _ :: _, _, _, _, hx, _, _, _, _ => by simp [shapes] at hx
  | [], [], _ :: _, _, _, _, hy, _, _, _ => by simp [shapes] at hy
  | [], [], [], _ :: _, _, _, _, _, hv, _ => hv.elim
  | [], [], [], [], _ :: _, _, _, _, _, hu => hu.elim
  | _ :: _, [], _, _, _, hx, _, _, _, _ => by simp [shapes] at hx
  | _ :: _, _ :: _, [], _, _, _, hy, _, _, _ => by simp [shapes] at hy
  | _ :: _, _ :: _, _ :: _, [], _, _, _, _, hv, _ => hv.elim
  | _ :: _, _ :: _, _ :: _, _ :: _, [], _, _, _, _, hu => hu.elim

theorem key_same {S : Nat → Nat → Prop} {n : Nat} {agg : Bool} {lv : List TK} {x y : AV} {v u : Value} (hl : lv ≠ []) (hx : keyOk agg lv x = true) (hy : keyOk agg lv y = true) (he : keq x y = true) (hv : Val w S ρ n x v) (hu : Val w S ρ n y u) :
    (Instr.keyThatStays u v).run P w = .ok v w := by
  have fin : v = u ∧ Instr.sameBits 10000 v v = true := by
    unfold keyOk at hx hy
    cases agg with
    | true =>
      cases x <;> (first | (simp at hx; done) | skip)
      cases y <;> (first | (simp at hy; done) | skip)
      simp only at hx hy
      obtain ⟨vs, rfl, h1⟩ := val_agg hv
      obtain ⟨us, rfl, h2⟩ := val_agg hu
      obtain ⟨rfl, h3⟩ := keq_val hx hy he h1 h2
      refine ⟨rfl, ?_⟩
      simp only [Instr.sameBits, BEq.rfl, Bool.true_and]
      rw [List.all_eq_true]
      intro z hz
      have : ∀ (l : List Value), ∀ z ∈ l.zip l, z.1 = z.2 ∧ z.1 ∈ l := by
        intro l
        induction l with
        | nil => simp
        | cons q l ih =>
          intro z hz
          rcases List.mem_cons.1 hz with rfl | hz
          · exact ⟨rfl, List.mem_cons_self⟩
          · obtain ⟨e1, e2⟩ := ih z hz; exact ⟨e1, List.mem_cons_of_mem _ e2⟩
      obtain ⟨e1, e2⟩ := this vs z hz
      rw [← e1]; exact (h3 _ e2).2 _
    | false =>
      simp only at hx hy
      have one : ∀ {z : AV}, shapes lv [z] = true → z.cells = [z] := by
        intro z hz
        cases h : lv with
        | nil => exact absurd h hl
        | cons k ks =>
          rw [h] at hz
          simp only [shapes] at hz
          split at hz
          · rename_i h1
            cases z <;> first | rfl | (cases k <;> simp [shape1] at h1)
          · simp at hz
      simp only [keq, one hx, one hy] at he
      obtain ⟨e, h3⟩ := keq_val (vs := [v]) (us := [u]) hx hy he ⟨hv, trivial⟩ ⟨hu, trivial⟩
      simp at e
      exact ⟨e, (h3 v (by simp)).2 _⟩
  obtain ⟨rfl, h2⟩ := fin
  simp [Instr.keyThatStays, h2]

theorem check_plain {t : TypeId} {d : TypeDesc} (hu : P.underlying t = some d) (hp : (tkOf d).plain = true) (e : Bool) (m : Nat) (v : Value) : (Instr.checkKey e (m + 1) t v).run P w = .ok () w := by
  unfold Instr.checkKey
  simp only [Sem.run_bind, run_underlying hu, Result.andThen_ok]
  cases d <;> simp [tkOf, TK.plain] at hp <;> simp

theorem check_fields {cs : Array Value} {n : Nat} {e : Bool} {m : Nat} (ht : TabOk P tab) (hn : n = cs.size) : ∀ (fs : List Field), flds tab n (fs.map fun f => (f.type, f.offset)) = true →
    (forIn fs PUnit.unit (fun f (_ : PUnit) => do
      if f.name ≠ "_" then
        Instr.checkKey e (m + 1) f.type (← part f.type cs f.offset)
        pure (ForInStep.yield PUnit.unit)
      else pure (ForInStep.yield PUnit.unit)) : Sem PUnit).run P w = .ok PUnit.unit w
  | [], _ => by simp
  | f :: fs, h => by
    simp only [List.map_cons, flds] at h
    split at h
    case h_2 => simp at h
    rename_i hp
    split at h
    case h_2 => simp at h
    rename_i hlt
    have hlt' : f.offset < cs.size := by rw [← hn]; simpa [Nat.blt_eq] using hlt
    obtain ⟨i, d, z, hty⟩ := ht.kind (t := f.type) (k := (tab f.type).k) rfl (by intro e; rw [e] at hp; simp [TK.plain] at hp)
    have hpd : (tkOf d).plain = true := by rw [← hty.k]; exact hp
    have hone : isAggT P f.type = false := by simp only [isAggT, hty.und]; cases d <;> simp [tkOf, TK.plain, aggOf] at hpd ⊢
    have hpart := run_part_one (P := P) (w := w) (t := f.type) (xs := cs) (off := f.offset) (v := cs[f.offset]) (by simp [hty.und]) hone (by simp [hlt'])
    have ih := check_fields (e := e) (m := m) ht hn fs h
    by_cases hname : f.name = "_"
    · simp only [List.forIn_cons, Sem.run_bind, hname, ne_eq, not_true_eq_false, if_false, Sem.run_pure, Result.andThen_ok]
      exact ih
    · simp only [List.forIn_cons, Sem.run_bind, hname, ne_eq, not_false_eq_true, if_true, hpart, Result.andThen_ok, check_plain hty.und hpd e m, Sem.run_pure]
      exact ih

/-- A key's type is one that can be looked up. -/
theorem check_key {S : Nat → Nat → Prop} {n : Nat} (ht : TabOk P tab) {kt : TypeId} {k : AV} {v : Value} {e : Bool} (hkt : keyTy tab (tab kt) = true) (hk : keyOk (tab kt).agg (tab kt).lv k = true) (hv : Val w S ρ n k v) : (Instr.checkKey e 10000 kt v).run P w = .ok () w := by
  unfold keyTy at hkt
  split at hkt
  · simp at hkt
  have plain : (tab kt).k.plain = true → (Instr.checkKey e 10000 kt v).run P w = .ok () w := by
    intro hp
    obtain ⟨i, d, z, hty⟩ := ht.kind (t := kt) (k := (tab kt).k) rfl (by intro e; rw [e] at hp; simp [TK.plain] at hp)
    exact check_plain hty.und (by rw [← hty.k]; exact hp) e 9999 v
  split at hkt
  · rename_i e1; exact plain (by rw [e1]; rfl)
  · rename_i e1; exact plain (by rw [e1]; rfl)
  · rename_i e1; exact plain (by rw [e1]; rfl)
  · rename_i fs e1
    obtain ⟨i, d, z, hty⟩ := ht.kind e1 (by simp)
    have hd : ∃ gs : Array Field, d = .struct gs ∧ gs.toList.map (fun f => (f.type, f.offset)) = fs := by
      have := hty.k; rw [e1] at this
      cases d <;> simp [tkOf] at this
      exact ⟨_, rfl, by simp [this]⟩
    obtain ⟨gs, rfl, hgs⟩ := hd
    have hagg : (tab kt).agg = true := by rw [hty.agg]; rfl
    unfold keyOk at hk
    rw [hagg] at hk
    cases k <;> (first | (simp at hk; done) | skip)
    simp only at hk
    obtain ⟨vs, rfl, h1⟩ := val_agg hv
    -- as many cells as the type has
    have hlen : lenN (tab kt).lv = vs.length := by
      have hsh : ∀ {ks : List TK} {xs : List AV}, shapes ks xs = true → ks.length = xs.length := by
        intro ks
        induction ks with
        | nil => intro xs h; cases xs with | nil => rfl | cons _ _ => simp [shapes] at h
        | cons k ks ih =>
          intro xs h
          cases xs with
          | nil => simp [shapes] at h
          | cons x xs =>
            simp only [shapes] at h
            split at h
            · simp [ih h]
            · simp at h
      rw [lenN_eq, hsh hk]; exact h1.length
    rw [← hgs] at hkt
    have := check_fields (e := e) (m := 9998) (cs := vs.toArray) (w := w) ht (by simpa using hlen) gs.toList hkt
    show (Instr.checkKey e (9998 + 1 + 1) kt (.agg vs.toArray)).run P w = _
    rw [Instr.checkKey]
    simp only [Sem.run_bind, run_underlying hty.und, Result.andThen_ok]
    rw [← Array.forIn_toList]
    rw [this]; rfl
  · simp at hkt

/-- A map's entries turned. -/
theorem rel_map (h : Rel ρ s.hp w) {i : Nat} {es es' : List (AV × AV)} {ms ms' : List MapEntry} {c c' : Nat} (hi : s.hp[i]? = some (.mp es)) (hb : w.heap[ρ.b i]? = some (.map ms.toArray c))
    (hv : All2 (fun (x : AV × AV) (m : MapEntry) => Val w (Stay ρ s.hp) ρ s.hp.length x.1 m.key ∧ Val w (Stay ρ s.hp) ρ s.hp.length x.2 m.val) es' ms') (hlt : ∀ m ∈ ms', m.born < c') (hnd : (ms'.map (·.born)).Nodup) :
    Stp ρ s.hp w ρ (setN s.hp i (.mp es')) (w.putObj (ρ.b i) (.map ms'.toArray c')) ∧ Rel ρ (setN s.hp i (.mp es')) (w.putObj (ρ.b i) (.map ms'.toArray c')) := by
  have hnew := World.putObj_heap_same (w := w) (o := .map ms'.toArray c') (lt_of_heap hb)
  have oth : ∀ {b : Nat}, b ≠ ρ.b i → (w.putObj (ρ.b i) (.map ms'.toArray c')).heap[b]? = w.heap[b]? := fun h => World.putObj_heap_other h
  have hlen : (setN s.hp i (.mp es')).length = s.hp.length := by rw [setN_eq]; simp
  have hown : ∀ b o, Own ρ (setN s.hp i (.mp es')) b o ↔ Own ρ s.hp b o := by
    intro b o
    constructor
    · rintro ⟨j, f, hj, ho⟩
      rcases get_set hj with ⟨rfl, rfl⟩ | ⟨hne, hj⟩
      · exact ⟨j, _, hi, ho⟩
      · exact ⟨j, f, hj, ho⟩
    · rintro ⟨j, f, hj, ho⟩
      by_cases hne : j = i
      · subst hne
        rw [hi] at hj; simp at hj; subst hj
        exact ⟨j, .mp es', by rw [setN_eq]; simp [lt_of_get hi], ho⟩
      · exact ⟨j, f, by rw [setN_eq, List.getElem?_set]; simp [Ne.symm hne, hj], ho⟩
  have hst : Stp ρ s.hp w ρ (setN s.hp i (.mp es')) (w.putObj (ρ.b i) (.map ms'.toArray c')) := by
    refine ⟨rfl, rfl, rfl, by rw [World.putObj_size]; exact Nat.le_refl _, fun b ob hob => ?_, fun b o _ ho => (hown b o).1 ho, by omega, fun _ _ => rfl, fun _ _ => .inl rfl, rfl, rfl⟩
    by_cases hbb : b = ρ.b i
    · subst hbb
      rw [hb] at hob; simp at hob; subst hob
      exact ⟨_, hnew, .inl ⟨i, _, hi, rfl⟩⟩
    · exact ⟨ob, by rw [oth hbb]; exact hob, okBlk.refl _ _⟩
  refine ⟨hst, fun j f hj => ?_, fun j l f g b o hj hl hf hg => ?_, fun b o ho => by rw [World.putObj_size]; exact h.xlt b o ho, fun b o ho => h.xown b o ((hown b o).1 ho)⟩
  · rcases get_set hj with ⟨rfl, rfl⟩ | ⟨hne, hj⟩
    · exact ⟨ms', c', hnew, hv.imp fun _ _ h => ⟨h.1.step hst, h.2.step hst⟩, hlt, hnd⟩
    · refine (h.ents j f hj).keep hst.keeps (lt_of_get hj) rfl (fun hk => ?_) (fun hp hlt c e' f' hc => ?_)
      · refine oth fun e => hne ?_
        refine h.disj j i f _ (ρ.b i) 0 hj hi ?_ rfl
        cases f <;> simp_all [Ent.blk, OwnE]
      · refine ⟨c, ?_, rfl, fun _ _ _ => rfl⟩
        rw [oth fun e => by rw [e, hb] at hc; simp at hc]; exact hc
  · have back : ∀ j f, (setN s.hp i (.mp es'))[j]? = some f → OwnE ρ j b o f → ∃ f', s.hp[j]? = some f' ∧ OwnE ρ j b o f' := by
      intro j f hj ho
      rcases get_set hj with ⟨rfl, rfl⟩ | ⟨hne, hj⟩
      · exact ⟨_, hi, ho⟩
      · exact ⟨f, hj, ho⟩
    obtain ⟨f', hj', hf'⟩ := back j f hj hf
    obtain ⟨g', hl', hg'⟩ := back l g hl hg
    exact h.disj j l f' g' b o hj' hl' hf' hg'

theorem map_und (ht : TabOk P tab) {t kt et : TypeId} (hk : (tab t).k = .map kt et) : P.underlying t = some (.map kt et) := by
  obtain ⟨i, d, z, hty⟩ := ht.kind hk (by simp)
  have hd : d = .map kt et := by have := hty.k; rw [hk] at this; cases d <;> simp [tkOf] at this; obtain ⟨rfl, rfl⟩ := this; rfl
  rw [← hd]; exact hty.und

theorem val_mp {S : Nat → Nat → Prop} {n id : Nat} {v : Value} (h : Val w S ρ n (.mp id) v) : id < n ∧ v = .map (some (ρ.b id)) := by
  obtain ⟨d, h⟩ := h; cases d <;> simp [Cz] at h; exact h
theorem val_nilm {S : Nat → Nat → Prop} {n : Nat} {v : Value} (h : Val w S ρ n .nilm v) : v = .map none := by
  obtain ⟨d, h⟩ := h; cases d <;> simp [Cz] at h; exact h

theorem key_ne {T : Ty} (h : keyTy tab T = true) : T.lv ≠ [] := by
  intro e; unfold keyTy at h; rw [e] at h; simp at h

theorem sound_lookup (ht : TabOk P tab) {t : TypeId} {x k : Operand} {cok : Bool} (ho : o.op = .lookup t x k cok) (hs : RelS ρ s a w) (h : aop (std P n₀) tab (.lookup t x k cok) s K E) (hg : Goes ρ s a w o.dst K next) : o.wp P a w next Q := by
  have hx := ev_val hs x
  have hk := ev_val hs k
  simp only [aop] at h
  unfold lkA at h
  split at h
  case h_2 => exact h.elim
  rename_i kt et hmk
  have hu := map_und ht hmk
  split at h
  · exact h.elim
  rename_i hkt
  split at h
  · exact h.elim
  rename_i hko
  split at h
  · exact h.elim
  rename_i z hz
  obtain ⟨zi, zd, zv, hzt, hz2, _⟩ := zeroV_val (w := w) (S := Stay ρ s.hp) (ρ := ρ) (n := s.hp.length) ht hz
  have hz1 := run_zero hzt w
  have hlv := key_ne hkt
  have out : ∀ {v : AV} {u : Value} {b : Bool}, Val w (Stay ρ s.hp) ρ s.hp.length v u → Val w (Stay ρ s.hp) ρ s.hp.length (lkV cok v b) (if cok then .tuple #[u, .bool b] else u) := by
    intro v u b hv
    cases cok with
    | false => exact hv
    | true =>
      obtain ⟨d, hd⟩ := hv
      refine ⟨d + 2, [u, .bool b], rfl, Cz.succ _ _ _ hd, ?_, trivial⟩
      rfl
  split at h
  · rename_i e
    rw [e] at hx
    have := val_nilm hx
    refine wp_value (v := if cok then .tuple #[zv, .bool false] else zv) (w' := w) ?_ (hg.here hs h (out hz2))
    have hc := check_key (w := w) ht (e := true) hkt hko hk
    simp only [execOp, ho, this, Instr.lookup, Sem.run_bind, run_underlying hu, Result.andThen_ok, Sem.run_pure, Array.isEmpty_empty, hc]
    obtain ⟨i, d, zz, hty⟩ := ht.of (t := kt) (fun e => by rw [e] at hlv; simp [Ty.no] at hlv)
    have hf : (Instr.findKey kt (a.eval k) []).run P w = .ok none w := run_findKey_asking hty.und (by simp [Instr.findAsking])
    simp only [hf, Result.andThen_ok, Sem.run_bind, hz1, Sem.run_pure]
    try (cases cok <;> rfl)
  · rename_i id e
    rw [e] at hx
    obtain ⟨_, hxv⟩ := val_mp hx
    rw [nth_eq] at h
    split at h
    case h_2 => exact h.elim
    rename_i es hes
    obtain ⟨ms, c, hb, hall, hborn, hnd⟩ := hs.rel.ents _ _ hes
    obtain ⟨hmok, h1, h2⟩ := h
    have hc := check_key (w := w) (e := ms.toArray.isEmpty) ht hkt hko hk
    have hgm := run_getMap (P := P) hb
    obtain ⟨i, d, zz, hty⟩ := ht.of (t := kt) (fun e => by rw [e] at hlv; simp [Ty.no] at hlv)
    rcases find_all (w := w) (P := P) ht hlv hko hk hall hmok with ⟨f1, f2, _, _⟩ | ⟨j, y, m, g1, g2, g3, g4, g5, _, _⟩
    · refine wp_value (v := if cok then .tuple #[zv, .bool false] else zv) (w' := w) ?_ (hg.here hs (h2 f1) (out hz2))
      have hf := run_findKey_asking hty.und (f2 0)
      simp only [execOp, ho, hxv, Instr.lookup, Sem.run_bind, run_underlying hu, Result.andThen_ok, hgm, Sem.run_pure, hc, hf, hz1]
      try (cases cok <;> rfl)
    · obtain ⟨m', hm', hv'⟩ := hall.get g1
      rw [g2] at hm'; simp at hm'; subst hm'
      refine wp_value (v := if cok then .tuple #[m.val, .bool true] else m.val) (w' := w) ?_ (hg.here hs (h1 _ g4) (out hv'.2))
      have hf := run_findKey_asking hty.und (g5 0)
      simp only [execOp, ho, hxv, Instr.lookup, Sem.run_bind, run_underlying hu, Result.andThen_ok, hgm, Sem.run_pure, hc, hf, hz1]
      try (cases cok <;> rfl)
  · exact h.elim

theorem map_born {ms : List MapEntry} {c : Nat} {k v : Value} (h1 : ∀ m ∈ ms, m.born < c) (h2 : (ms.map (·.born)).Nodup) :
    (∀ m ∈ ms ++ [({ key := k, val := v, born := c } : MapEntry)], m.born < c + 1) ∧ ((ms ++ [({ key := k, val := v, born := c } : MapEntry)]).map (·.born)).Nodup := by
  refine ⟨fun m hm => ?_, ?_⟩
  · rcases List.mem_append.1 hm with hm | hm
    · have := h1 m hm; omega
    · simp at hm; subst hm; exact Nat.lt_succ_self _
  · rw [List.map_append, List.nodup_append]
    refine ⟨h2, by simp, fun x hx y hy e => ?_⟩
    obtain ⟨m, hm, rfl⟩ := List.mem_map.1 hx
    simp at hy; subst hy
    have := h1 m hm; omega

theorem map_set {ms : List MapEntry} {j : Nat} {m m' : MapEntry} {c : Nat} (hj : ms[j]? = some m) (hb : m'.born = m.born) (h1 : ∀ m ∈ ms, m.born < c) (h2 : (ms.map (·.born)).Nodup) :
    (∀ x ∈ ms.set j m', x.born < c) ∧ ((ms.set j m').map (·.born)).Nodup := by
  have e : (ms.set j m').map (·.born) = ms.map (·.born) := by
    rw [List.map_set, hb]
    apply List.ext_getElem?
    intro i
    rw [List.getElem?_set]
    split
    · rename_i e; subst e
      have := lt_of_get hj
      have hm := (List.getElem?_eq_some_iff.1 hj).2
      simp [this, hm]
    · rfl
  refine ⟨fun x hx => ?_, by rw [e]; exact h2⟩
  have : x.born ∈ (ms.set j m').map (·.born) := List.mem_map_of_mem hx
  rw [e] at this
  obtain ⟨y, hy, he⟩ := List.mem_map.1 this
  rw [← he]; exact h1 y hy

theorem sound_mapUpdate (ht : TabOk P tab) {t : TypeId} {x k v : Operand} (ho : o.op = .mapUpdate t x k v) (hs : RelS ρ s a w) (h : aop (std P n₀) tab (.mapUpdate t x k v) s K E) (hg : Goes ρ s a w o.dst K next) : o.wp P a w next Q := by
  have hx := ev_val hs x
  have hk := ev_val hs k
  have hv := ev_val hs v
  simp only [aop] at h
  unfold muA at h
  split at h
  case h_2 => exact h.elim
  rename_i kt et hmk
  have hu := map_und ht hmk
  split at h
  · exact h.elim
  rename_i hkt
  split at h
  · exact h.elim
  rename_i hko
  have hlv := key_ne hkt
  split at h
  case h_2 => exact h.elim
  rename_i id e
  rw [e] at hx
  obtain ⟨_, hxv⟩ := val_mp hx
  rw [nth_eq] at h
  split at h
  case h_2 => exact h.elim
  rename_i es hes
  obtain ⟨ms, c, hb, hall, hborn, hnd⟩ := hs.rel.ents _ _ hes
  obtain ⟨hmok, h⟩ := h
  have hc := check_key (w := w) (e := false) ht hkt hko hk
  have hgm := run_getMap (P := P) hb
  obtain ⟨i, d, zz, hty⟩ := ht.of (t := kt) (fun e => by rw [e] at hlv; simp [Ty.no] at hlv)
  rcases find_all (w := w) (P := P) ht hlv hko hk hall hmok with ⟨f1, f2, f3, _⟩ | ⟨j, y, m, g1, g2, g3, g4, g5, g6, _⟩
  · have hf := run_findKey_asking hty.und (f2 0)
    have hset := MapKept.run_setObj_map (P := P) (.map (ms.toArray.push { key := a.eval k, val := a.eval v, born := c }) (c + 1)) hb
    obtain ⟨b1, b2⟩ := map_born (k := a.eval k) (v := a.eval v) hborn hnd
    have hr := rel_map hs.rel (es' := mput es (s.ev k) (s.ev v)) (c' := c + 1) hes hb (by rw [f3]; exact hall.append ⟨⟨hk, hv⟩, trivial⟩) b1 b2
    have hpush : ms.toArray.push { key := a.eval k, val := a.eval v, born := c } = (ms ++ [({ key := a.eval k, val := a.eval v, born := c } : MapEntry)]).toArray := by simp
    rw [← hpush] at hr
    refine wp_skip' (w' := w.putObj (ρ.b id) _) ?_ (hg.go .junk undef ρ _ _ h Val.junk hr.1 hr.2)
    simp only [execOp, ho, hxv, Instr.mapUpdate, Sem.run_bind, run_underlying hu, Result.andThen_ok, hgm, hc, hf, hset, Sem.run_pure]
    rfl
  · have hf := run_findKey_asking hty.und (g5 0)
    obtain ⟨m', hm', hkv, _⟩ := hall.get g1
    rw [g2] at hm'; simp at hm'; subst hm'
    have hky := key_same (P := P) hlv hko (hmok _ (List.mem_of_getElem? g1)) g3 hk hkv
    have hset := MapKept.run_setObj_map (P := P) (.map (ms.toArray.modify j fun e => { e with key := a.eval k, val := a.eval v }) c) hb
    have hmod : ms.toArray.modify j (fun e => { e with key := a.eval k, val := a.eval v }) = (ms.set j { m with key := a.eval k, val := a.eval v }).toArray := by
      apply Array.ext_getElem?
      intro q
      simp only [Array.getElem?_modify, List.getElem?_toArray, List.getElem?_set]
      by_cases e : j = q
      · subst e
        have hm := (List.getElem?_eq_some_iff.1 g2).2
        simp [lt_of_get g2, hm]
      · simp [e]
    rw [hmod] at hset
    obtain ⟨b1, b2⟩ := map_set (m' := { m with key := a.eval k, val := a.eval v }) g2 rfl hborn hnd
    have hr := rel_map hs.rel (es' := mput es (s.ev k) (s.ev v)) (c' := c) hes hb (by rw [g6, ← setN_eq]; exact hall.set j ⟨hk, hv⟩) b1 b2
    refine wp_skip' (w' := w.putObj (ρ.b id) _) ?_ (hg.go .junk undef ρ _ _ h Val.junk hr.1 hr.2)
    have hk0 : ((ms.toArray[j]?).map (·.key)).getD (a.eval k) = m.key := by simp [g2]
    simp only [execOp, ho, hxv, Instr.mapUpdate, Sem.run_bind, run_underlying hu, Result.andThen_ok, hgm, hc, hf, Nat.zero_add, hk0, hky, hmod, hset, Sem.run_pure]
    rfl

theorem sound_delete (ht : TabOk P tab) {args : Array Operand} {ts : Array TypeId} (ho : o.op = .call ⟨.builtin .delete, args, ts⟩) (hs : RelS ρ s a w) (h : aop (std P n₀) tab (.call ⟨.builtin .delete, args, ts⟩) s K E) (hg : Goes ρ s a w o.dst K next) : o.wp P a w next Q := by
  have hv := evs_val hs args.toList
  have hmap : args.map a.eval = (args.toList.map a.eval).toArray := by apply Array.ext'; simp
  simp only [aop] at h
  generalize hxs : evs s args.toList = xs at h hv
  generalize hus : args.toList.map a.eval = us at hv hmap
  split at h
  case h_2 => exact h.elim
  rename_i x k
  split at h
  case h_2 => exact h.elim
  rename_i t l hts
  match us, hv with
  | [vx, vk], ⟨hx, hk, _⟩ =>
  have hts' : ts = (t :: l).toArray := by apply Array.ext'; simpa using hts
  unfold dlA at h
  split at h
  case h_2 => exact h.elim
  rename_i kt et hmk
  have hu := map_und ht hmk
  split at h
  · exact h.elim
  rename_i hkt
  split at h
  · exact h.elim
  rename_i hko
  have hlv := key_ne hkt
  split at h
  case h_2 => exact h.elim
  rename_i id
  obtain ⟨_, hxv⟩ := val_mp hx
  subst hxv
  rw [nth_eq] at h
  split at h
  case h_2 => exact h.elim
  rename_i es hes
  obtain ⟨ms, c, hb, hall, hborn, hnd⟩ := hs.rel.ents _ _ hes
  obtain ⟨hmok, h⟩ := h
  have hc := check_key (w := w) (e := ms.toArray.isEmpty) ht hkt hko hk
  have hgm := run_getMap (P := P) hb
  obtain ⟨i, d, zz, hty⟩ := ht.of (t := kt) (fun e => by rw [e] at hlv; simp [Ty.no] at hlv)
  have fin : ∀ {ms' : List MapEntry} {w' : World}, (Builtin.delete_ (t :: l).toArray o.type #[.map (some (ρ.b id)), vk]).run P w = .ok (.tuple #[]) w' → Stp ρ s.hp w ρ (setN s.hp id (.mp (mdel es k))) w' → Rel ρ (setN s.hp id (.mp (mdel es k))) w' → o.wp P a w next Q := by
    intro ms' w' hr h1 h2
    exact wp_value (run_bi (f := Builtin.delete_ ts o.type #[.map (some (ρ.b id)), vk]) ho hmap (fun cs => rfl) (by rw [hts']; exact hr)) (hg.go .junk _ ρ _ _ h Val.junk h1 h2)
  rcases find_all (w := w) (P := P) ht hlv hko hk hall hmok with ⟨f1, f2, _, f4⟩ | ⟨j, y, m, g1, g2, g3, g4, g5, _, g7⟩
  · have hf := run_findKey_asking hty.und (f2 0)
    have hset := MapKept.run_setObj_map (P := P) (.map ms.toArray c) hb
    have hr := rel_map hs.rel (es' := mdel es k) (c' := c) hes hb (by rw [f4]; exact hall) hborn hnd
    refine fin (ms' := ms) (w' := w.putObj (ρ.b id) (.map ms.toArray c)) ?_ hr.1 hr.2
    simp only [Builtin.delete_, Sem.run_bind, run_underlying hu, Result.andThen_ok, hgm, Sem.run_pure]
    have e0 : ((t :: l).toArray[0]?) = some t := by simp
    simp only [e0]
    simp only [Sem.run_bind, run_underlying hu, Result.andThen_ok, hgm, hc, hf, hset, Sem.run_pure, List.getElem?_toArray, List.getElem?_cons_zero, List.getElem?_cons_succ]
    rfl
  · have hf := run_findKey_asking hty.und (g5 0)
    have hset := MapKept.run_setObj_map (P := P) (.map (ms.toArray.eraseIdxIfInBounds j) c) hb
    have her : ms.toArray.eraseIdxIfInBounds j = (ms.eraseIdx j).toArray := by
      have := lt_of_get g2
      simp [Array.eraseIdxIfInBounds, this]
    rw [her] at hset
    have hsub := List.eraseIdx_sublist ms j
    have her2 : ∀ {α β : Type} {R : α → β → Prop} {l : List α} {m : List β} (j : Nat), All2 R l m → All2 R (l.eraseIdx j) (m.eraseIdx j) := by
      intro α β R l
      induction l with
      | nil => intro m j h; cases m <;> simp [All2] at h ⊢
      | cons x l ih =>
        intro m j h
        cases m with
        | nil => exact h.elim
        | cons y m =>
          cases j with
          | zero => exact h.2
          | succ j => exact ⟨h.1, ih j h.2⟩
    have hr := rel_map hs.rel (es' := mdel es k) (c' := c) hes hb (by rw [g7]; exact her2 j hall) (fun m hm => hborn m (hsub.subset hm)) ((hsub.map _).nodup hnd)
    refine fin (ms' := ms.eraseIdx j) (w' := w.putObj (ρ.b id) (.map (ms.eraseIdx j).toArray c)) ?_ hr.1 hr.2
    simp only [Nat.zero_add] at hf
    simp only [Builtin.delete_, Sem.run_bind, run_underlying hu, Result.andThen_ok, hgm, Sem.run_pure]
    have e0 : ((t :: l).toArray[0]?) = some t := by simp
    simp only [e0]
    simp only [Sem.run_bind, run_underlying hu, Result.andThen_ok, hgm, hc, hf, her, hset, Sem.run_pure, List.getElem?_toArray, List.getElem?_cons_zero, List.getElem?_cons_succ]
    rfl

theorem sound_clear (ht : TabOk P tab) {args : Array Operand} {ts : Array TypeId} (ho : o.op = .call ⟨.builtin .clear, args, ts⟩) (hs : RelS ρ s a w) (h : aop (std P n₀) tab (.call ⟨.builtin .clear, args, ts⟩) s K E) (hg : Goes ρ s a w o.dst K next) : o.wp P a w next Q := by
  have hv := evs_val hs args.toList
  have hmap : args.map a.eval = (args.toList.map a.eval).toArray := by apply Array.ext'; simp
  simp only [aop] at h
  generalize hxs : evs s args.toList = xs at h hv
  generalize hus : args.toList.map a.eval = us at hv hmap
  split at h
  case h_2 => exact h.elim
  rename_i x
  split at h
  case h_2 => exact h.elim
  rename_i t tl hts
  match us, hv with
  | [vx], ⟨hx, _⟩ =>
  have hts' : ts = (t :: tl).toArray := by apply Array.ext'; simpa using hts
  unfold clA at h
  split at h
  case h_3 => exact h.elim
  case h_2 =>
    rename_i e hmk
    have hu := und_slice ht hmk
    split at h
    · exact h.elim
    rename_i zv hz
    split at h
    case h_2 => exact h.elim
    rename_i hsp
    have hsp' : 0 < (tab e).size := by simpa [Nat.blt_eq] using hsp
    split at h
    case h_2 => exact h.elim
    rename_i id z lo n N
    split at h
    case h_2 => exact h.elim
    rename_i hzz
    have hzz' := Nat.eq_of_beq_eq_true hzz
    subst hzz'
    split at h
    case h_2 => exact h.elim
    rename_i z' xs hid
    split at h
    case h_2 => exact h.elim
    rename_i hzz'
    have hzz'' := Nat.eq_of_beq_eq_true hzz'
    subst hzz''
    obtain ⟨p1, p2, p3, h⟩ := h
    replace p3 : lo + n ≤ (xs.length : Nat) := p3
    rw [nth_eq] at hid
    have hent := hs.rel.ents id _ hid
    have hent' := hent
    obtain ⟨hpos, hfit, hblk, hel⟩ := hent'
    obtain ⟨hidl, ad, len, cap, rfl, rfl, hcap, hadr, hloc⟩ := val_vs hx
    obtain ⟨l, rfl, hN, ha⟩ := hloc
    replace ha := ha hpos
    replace h : K .junk (setN s.hp id (.vec (tab e).size (xs.take (l : Int).toNat ++ List.replicate (len : Int).toNat zv ++ xs.drop ((l : Int).toNat + (List.replicate (len : Int).toNat zv).length)))) := h
    rw [Int.toNat_natCast, Int.toNat_natCast] at h
    obtain ⟨i, d, zz, hty, hzv, hone⟩ := zeroV_val (w := w) (S := Stay ρ s.hp) (ρ := ρ) (n := 0) ht hz
    have hzl : zz.cells.toList.length = (tab e).size := by rw [← hty.zsize]; simp
    obtain ⟨hzc, hz1⟩ := hzv.cells hone
    have hle : (ρ.t id).start + (l + len) * (tab e).size ≤ (ρ.t id).stop := by
      have := Nat.mul_le_mul_right (tab e).size (show l + len ≤ xs.length by omega); omega
    have hnews : ∀ u ∈ repl len zz.cells.toList, u.oneCell' = true := by
      intro u hu
      obtain ⟨q, hq⟩ := List.mem_iff_getElem?.1 hu
      have hlt := lt_of_get hq
      rw [repl_length] at hlt
      rw [repl_get _ _ _ hlt] at hq
      exact hz1 u (List.mem_of_getElem? hq)
    have hst := rel_lay hs.rel (ys := List.replicate len zv) (p := l) (news := repl len zz.cells.toList) hid (by omega) (by simpa using hle) (by simp [repl_length, hzl]) hnews (fun j x hx' => by
      rw [List.getElem?_replicate] at hx'
      split at hx'
      case isFalse => simp at hx'
      rename_i hj
      simp at hx'; subst hx'
      refine ⟨_, hzc, hzl, fun q v hv => ?_⟩
      have hq := lt_of_get hv
      have hlt : j * (tab e).size + q < len * zz.cells.toList.length := by rw [hzl]; exact el_lt hj (by rw [← hzl]; exact hq)
      rw [repl_get _ _ _ hlt, hzl, Nat.mul_comm, Nat.mul_add_mod, Nat.mod_eq_of_lt (by rw [← hzl]; exact hq)]
      exact hv)
    have hrun : (Builtin.clear_ #[t] o.type #[.slice ad len cap]).run P w = .ok (.tuple #[]) (w.setCells (ρ.t id).blk ((ρ.t id).start + l * (tab e).size) (repl len zz.cells.toList)) := by
      by_cases hl0 : len = 0
      · subst hl0
        simp only [repl, World.setCells]
        cases ad <;> simp [Builtin.clear_, run_underlying hu]
      · obtain ⟨rfl, _⟩ := ha (by omega)
        have hcc := vec_cells hent (q := (ρ.t id).start + l * (tab e).size) (k := (repl len zz.cells.toList).length) (by omega) (by rw [repl_length, hzl]; rw [Nat.add_mul] at hle; omega)
        have h1 := run_storeCells_cells (P := P) (ρ.t id).blk ((ρ.t id).start + l * (tab e).size) (repl len zz.cells.toList) 0 w (fun j hj => by rw [Nat.add_zero]; exact (hcc j hj).1) (fun j hj => by rw [Nat.add_zero]; exact (hcc j hj).2) hnews
        rw [Nat.add_zero] at h1
        have h2 : (Builtin.zeroCells zz.cells len).toList = repl len zz.cells.toList := by
          have := zeros_repl zz.cells len (len * zz.cells.size) rfl
          rw [Builtin.zeroCells, this]
        obtain ⟨k, rfl⟩ : ∃ k, len = k + 1 := ⟨len - 1, by omega⟩
        simp [Builtin.clear_, run_underlying hu, run_zero hty, h2, h1]
    refine wp_value (v := .tuple #[]) (run_bi (f := Builtin.clear_ ts o.type #[.slice ad len cap]) ho hmap (fun cs => rfl) ?_) (hg.go .junk _ ρ _ _ h Val.junk hst.1 hst.2)
    rw [hts']
    have e1 : Builtin.clear_ (t :: tl).toArray o.type #[.slice ad len cap] = Builtin.clear_ #[t] o.type #[.slice ad len cap] := by simp [Builtin.clear_]
    rw [e1]; exact hrun
  rename_i kt et hmk
  have hu := map_und ht hmk
  split at h
  case h_2 => exact h.elim
  rename_i id
  obtain ⟨_, hxv⟩ := val_mp hx
  subst hxv
  rw [nth_eq] at h
  split at h
  case h_2 => exact h.elim
  rename_i es hes
  obtain ⟨ms, c, hb, hall, hborn, hnd⟩ := hs.rel.ents _ _ hes
  have hgm := run_getMap (P := P) hb
  have hset := MapKept.run_setObj_map (P := P) (.map #[] c) hb
  have hr := rel_map hs.rel (es' := []) (ms' := []) (c' := c) hes hb trivial (by simp) (by simp)
  refine wp_value (v := .tuple #[]) (w' := w.putObj (ρ.b id) (.map #[] c)) (run_bi (f := Builtin.clear_ ts o.type #[.map (some (ρ.b id))]) ho hmap (fun cs => rfl) ?_) (hg.go .junk _ ρ _ _ h Val.junk hr.1 hr.2)
  rw [hts']
  simp [Builtin.clear_, Sem.run_bind, run_underlying hu, Result.andThen_ok, hgm, hset]
  rfl

end
end Go.Pt
