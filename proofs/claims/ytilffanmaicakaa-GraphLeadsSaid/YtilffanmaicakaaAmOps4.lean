/- Each operation that the abstract machine does is one that the model does: things built, slices made, calls, builtins. -/
import Derived.Test.YtilffanmaicakaaAmOps3
namespace Go.Pt
open Go

section
variable {P : Program} {n₀ : Nat} {tab : Nat → Ty} {w : World} {ρ : Ro} {s : St} {a : Act} {o : Oper} {K E : AV → List Ent → Prop} {next : Act → World → Prop} {Q : Exit → Act → World → Prop}

theorem foldl_set (l : List Value) : ∀ (off k : Nat) (cs : Array Value), off + k + l.length ≤ cs.size →
    ((l.zipIdx k).foldl (fun cs (x : Value × Nat) => cs.setIfInBounds (off + x.2) x.1) cs).toList = cs.toList.take (off + k) ++ l ++ cs.toList.drop (off + k + l.length) := by
  induction l with
  | nil => intro off k cs h; simp
  | cons v l ih =>
    intro off k cs h
    simp only [List.zipIdx_cons, List.foldl_cons]
    rw [ih off (k + 1) _ (by simp at h ⊢; omega)]
    simp only [Array.toList_setIfInBounds, List.length_cons]
    have hlt : off + k < cs.toList.length := by simp at h ⊢; omega
    rw [show off + (k + 1) = off + k + 1 by omega, List.take_succ_eq_append_getElem (by simpa using hlt)]
    rw [List.getElem_set_self, List.take_set_of_le (Nat.le_refl _), List.drop_set_of_lt (by omega)]
    simp [Nat.add_assoc, Nat.add_comm, Nat.add_left_comm]

theorem fill_sound {S : Nat → Nat → Prop} {n : Nat} {place : Nat → Option (Nat × Nat)} : ∀ {ps : List (Nat × AV)} {vs : List (Nat × Value)} {cs cs' : List AV} {us : List Value},
    fillA place cs ps = some cs' → All2 (fun (x : Nat × AV) (y : Nat × Value) => x.1 = y.1 ∧ Val w S ρ n x.2 y.2) ps vs → All2 (Val w S ρ n) cs us →
    ∃ us', Instr.fill place us.toArray vs = some us' ∧ All2 (Val w S ρ n) cs' us'.toList
  | [], [], cs, cs', us, h, _, hc => by simp [fillA] at h; subst h; exact ⟨_, rfl, hc⟩
  | (i, x) :: ps, (j, v) :: vs, cs, cs', us, h, hp, hc => by
    obtain ⟨⟨hij, hv⟩, hp⟩ := hp
    simp only at hij hv
    subst hij
    simp only [fillA] at h
    split at h
    · simp at h
    · rename_i off size hpl
      split at h
      · simp at h
      · rename_i hsz
        split at h
        · simp at h
        rename_i hnil
        split at h
        · simp at h
        rename_i h1
        split at h
        · simp at h
        · rename_i cs'' hup
          obtain ⟨hvc, _⟩ := hv.cells h1
          have hl := hvc.length
          have hcl := hc.length
          have hsz' : x.cells.length = size := by have := Nat.eq_of_beq_eq_true hsz; rwa [lenN_eq] at this
          obtain ⟨rfl, hle, hlen⟩ := upon_eq _ _ _ hup
          have hvs : v.cells.size = size := by rw [← hsz', hl]; simp
          by_cases he : x.cells = []
          · exact absurd he hnil
          · have hb := hle he
            have hfold := foldl_set v.cells.toList off 0 us.toArray (by simp; simp at hl; omega)
            have key : (v.cells.zipIdx.foldl (fun cs (x : Value × Nat) => cs.setIfInBounds (off + x.2) x.1) us.toArray).toList = us.take off ++ v.cells.toList ++ us.drop (off + v.cells.toList.length) := by
              rw [← Array.foldl_toList, Array.toList_zipIdx]
              simpa using hfold
            have hc2 : All2 (Val w S ρ n) (cs.take off ++ x.cells ++ cs.drop (off + x.cells.length)) (us.take off ++ v.cells.toList ++ us.drop (off + v.cells.toList.length)) :=
              ((hc.take off).append hvc).append (by rw [hl]; exact hc.drop _)
            rw [← key] at hc2
            obtain ⟨us', h2, h3⟩ := fill_sound (us := _) h hp hc2
            refine ⟨us', ?_, h3⟩
            simp only [Instr.fill, hpl, hvs]
            rw [if_neg (by simp; simp at hl; omega)]
            simpa using h2
  | [], _ :: _, _, _, _, _, h, _ => h.elim
  | _ :: _, [], _, _, _, _, h, _ => h.elim

theorem parts_eq (s : St) : ∀ l : List (Nat × Operand), parts s l = l.map fun x => (x.1, s.ev x.2)
  | [] => rfl
  | (_, _) :: l => by simp [parts, parts_eq s l]

theorem parts_val (hs : RelS ρ s a w) : ∀ l : List (Nat × Operand), All2 (fun (x : Nat × AV) (y : Nat × Value) => x.1 = y.1 ∧ Val w (Stay ρ s.hp) ρ s.hp.length x.2 y.2) (parts s l) (l.map fun x => (x.1, a.eval x.2))
  | [] => trivial
  | (_, x) :: l => ⟨⟨rfl, ev_val hs x⟩, parts_val hs l⟩

theorem toList_parts (ps : Array (Nat × Operand)) : (ps.map fun (i, x) => (i, a.eval x)).toList = ps.toList.map fun x => (x.1, a.eval x.2) := by simp

theorem fill_mono {p p' : Nat → Option (Nat × Nat)} (hp : ∀ i x, p i = some x → p' i = some x) : ∀ {vs : List (Nat × Value)} {us us' : Array Value}, Instr.fill p us vs = some us' → Instr.fill p' us vs = some us'
  | [], _, _, h => h
  | (i, v) :: vs, us, us', h => by
    simp only [Instr.fill] at h ⊢
    cases hpi : p i with
    | none => rw [hpi] at h; simp at h
    | some x =>
      obtain ⟨off, size⟩ := x
      rw [hpi] at h
      rw [hp i _ hpi]
      dsimp only at h ⊢
      split at h
      · simp at h
      · rename_i hc
        rw [if_neg hc]
        exact fill_mono hp h

theorem mapM_places : ∀ fs : List Field, (fs.all fun f => (P.info? f.type).isSome) = true → ∃ pl, fs.mapM (fun f => (P.info? f.type).map fun i => (f.offset, i.size)) = some pl ∧ ∀ (i : Nat) f, fs[i]? = some f → ∃ j, P.info? f.type = some j ∧ pl[i]? = some (f.offset, j.size)
  | [], _ => ⟨[], by simp, fun i f h => by simp at h⟩
  | f :: fs, h => by
    simp only [List.all_cons, Bool.and_eq_true] at h
    obtain ⟨j, hj⟩ := Option.isSome_iff_exists.1 h.1
    obtain ⟨pl, h1, h2⟩ := mapM_places fs h.2
    refine ⟨(f.offset, j.size) :: pl, by simp [List.mapM_cons, hj, h1], fun i g hg => ?_⟩
    cases i with
    | zero => simp at hg; subst hg; exact ⟨j, hj, rfl⟩
    | succ i => simpa using h2 i g (by simpa using hg)

theorem sound_build (ht : TabOk P tab) {t : TypeId} {ps : Array (Nat × Operand)} (ho : o.op = .build t ps) (hs : RelS ρ s a w) (h : aop (std P n₀) tab (.build t ps) s K E) (hg : Goes ρ s a w o.dst K next) : o.wp P a w next Q := by
  simp only [aop] at h
  split at h
  case h_2 => exact h.elim
  rename_i hagg
  split at h
  case h_2 => exact h.elim
  rename_i cs hf
  obtain ⟨i, d, z, hty⟩ := ht.agg hagg
  rw [hty.zeros] at hf
  obtain ⟨us, h1, h2⟩ := fill_sound (us := z.cells.toList) hf (parts_val hs ps.toList) (lits_val _)
  obtain ⟨dd, hdd⟩ := all2_depth h2
  refine wp_value (v := .agg us) (w' := w) ?_ (hg.here hs h ⟨dd + 1, us.toList, by simp, hdd⟩)
  rw [← toList_parts] at h1
  rw [hty.agg] at hagg
  have hk := hty.k
  have hsub := hty.sub
  suffices hb : P.built t (ps.map fun (i, x) => (i, a.eval x)).toList = some us by
    simp only [execOp, ho, Sem.run_bind, run_build w t _ us hb, Result.andThen_ok, Sem.run_pure]
  unfold Program.built
  rw [hty.info, hty.und]
  cases d <;> simp only [aggOf, Bool.false_eq_true] at hagg
  · rename_i len e
    rw [hk] at h1
    simp only [subOk] at hsub
    obtain ⟨ie, hie⟩ := Option.isSome_iff_exists.1 hsub
    simp only [hty.zero, hie]
    refine fill_mono (fun j x hx => ?_) (by simpa using h1)
    simp only [tkOf, places] at hx
    split at hx
    · rename_i hok
      obtain ⟨i', d', z', hty'⟩ := ht.ok hok
      have := hty'.info; rw [hie] at this; simp at this; subst this
      rw [← hx, hty'.size]
    · simp at hx
  · rename_i fields
    rw [hk] at h1
    simp only [subOk] at hsub
    obtain ⟨pl, hpl, hget⟩ := mapM_places fields.toList hsub
    simp only [hty.zero, hpl]
    refine fill_mono (fun j x hx => ?_) (by simpa using h1)
    simp only [tkOf, places] at hx
    rw [nth_eq, List.getElem?_map] at hx
    cases hfj : fields.toList[j]? with
    | none => rw [hfj] at hx; simp at hx
    | some f =>
      rw [hfj] at hx
      simp only [Option.map_some] at hx
      obtain ⟨ij, hij, hpj⟩ := hget j f hfj
      split at hx
      · rename_i hok
        obtain ⟨i', d', z', hty'⟩ := ht.ok hok
        have := hty'.info; rw [hij] at this; simp at this; subst this
        simp only [Option.some.injEq] at hx
        rw [← hx, hty'.size]
        simpa using hpj
      · simp at hx

theorem chunks_sound {T : Ty} (h1 : T.agg = false → T.size = 1) : ∀ (n : Nat) {cs xs : List AV}, chunks T n cs = some xs → (∀ y ∈ cs, y.one = true) → xs.length = n ∧ (∀ (j : Nat) x, xs[j]? = some x → x.cells = (cs.drop (j * T.size)).take T.size ∧ x.cells.length = T.size)
  | 0, [], xs, h, _ => by simp [chunks] at h; subst h; simp
  | 0, _ :: _, xs, h, _ => by simp [chunks] at h
  | n + 1, cs, xs, h, ho => by
    simp only [chunks] at h
    split at h
    · simp at h
    · rename_i v hr
      simp only [Option.map_eq_some_iff] at h
      obtain ⟨r, hr', rfl⟩ := h
      obtain ⟨h2, h3⟩ := chunks_sound h1 n hr' (fun y hy => ho y (List.mem_of_mem_drop hy))
      have hv : v.cells = cs.take T.size ∧ v.cells.length = T.size := by
        unfold rd at hr
        split at hr
        case h_2 => simp at hr
        split at hr
        · simp only [Option.map_eq_some_iff] at hr
          obtain ⟨c, hc, rfl⟩ := hr
          rcases cut_eq _ _ _ hc with ⟨rfl, hl⟩ | ⟨e, rfl⟩
          · simp [AV.cells]; omega
          · simp [AV.cells, e]
        · rename_i ha
          rw [nth_eq] at hr
          have := h1 ha
          cases cs with
          | nil => simp at hr
          | cons c cs => simp at hr; subst hr; rw [cells_one (ho c (by simp)), this]; simp
      refine ⟨by simp [h2], fun j x hx => ?_⟩
      cases j with
      | zero => simp at hx; subst hx; simpa using hv
      | succ j =>
        obtain ⟨h4, h5⟩ := h3 j x (by simpa using hx)
        refine ⟨?_, h5⟩
        rw [h4, List.drop_drop, Nat.succ_mul, Nat.add_comm]

/-- A new block that nobody owns. -/
theorem rel_free (h : Rel ρ s.hp w) (ob : Obj) : Stp ρ s.hp w ρ s.hp (w.alloc ob) ∧ Rel ρ s.hp (w.alloc ob) := by
  have hst : Stp ρ s.hp w ρ s.hp (w.alloc ob) := ⟨rfl, rfl, rfl, by rw [World.size_alloc]; omega, fun b o hb => ⟨o, heap_alloc_old hb, okBlk.refl _ _⟩, fun _ _ _ h => h, Nat.le_refl _, fun _ _ => rfl, fun _ _ => .inl rfl, rfl, rfl⟩
  refine ⟨hst, fun i e hi => (h.ents i e hi).keep hst.keeps (lt_of_get hi) rfl (fun hk => ?_) (fun _ _ c e f hc => ⟨c, heap_alloc_old hc, rfl, fun _ _ _ => rfl⟩), h.disj, fun b o ho => by have := h.xlt b o ho; rw [World.size_alloc]; omega, h.xown⟩
  have := h.ents i e hi
  cases e with
  | var cs => obtain ⟨vs, e, _, h2⟩ := this; rw [heap_alloc_old h2, h2]
  | mp es => obtain ⟨ms, c, h1, _⟩ := this; rw [heap_alloc_old h1, h1]
  | lp ps asg body env k st pe => obtain ⟨r, h1, _⟩ := this; rw [heap_alloc_old h1, h1]
  | _ => simp [Ent.blk] at hk

theorem new_stay (h : Rel ρ s.hp w) (o' : Nat) : Stay ρ s.hp w.heap.size o' := by
  refine ⟨?_, fun hx => by have := h.xlt _ _ hx; omega⟩
  rintro ⟨i, e, hi, ho⟩
  have := h.ents i e hi
  cases e with
  | var cs => obtain ⟨vs, e, _, h2⟩ := this; simp only [OwnE] at ho; rw [ho] at h2; have := lt_of_heap h2; omega
  | mp es => obtain ⟨ms, c, h1, _⟩ := this; simp only [OwnE] at ho; rw [ho] at h1; have := lt_of_heap h1; omega
  | lp ps asg body env k st pe => obtain ⟨r, h1, _⟩ := this; simp only [OwnE] at ho; rw [ho] at h1; have := lt_of_heap h1; omega
  | tip pos =>
    obtain ⟨_, _, h3⟩ := this
    obtain ⟨e1, h4, h5⟩ := ho
    obtain ⟨c, e, f, g1, _⟩ := h3 (by omega)
    rw [e1] at g1
    have := lt_of_heap g1; omega
  | vec s xs =>
    obtain ⟨_, _, h3, _⟩ := this
    obtain ⟨e1, h4, h5⟩ := ho
    obtain ⟨c, e, f, g1, _⟩ := h3 (by omega)
    rw [e1] at g1
    have := lt_of_heap g1; omega
  | dead => exact ho.elim

/-- A row of new cells, read as a slice's elements. -/
theorem ones_of {S : Nat → Nat → Prop} {n : Nat} : ∀ {xs : List AV} {vs : List Value}, All2 (Val w S ρ n) xs vs → (∀ x ∈ xs, x.one = true) → ∀ u ∈ vs, u.oneCell' = true
  | [], [], _, _ => by simp
  | x :: xs, v :: vs, h, h1 => by
    intro u hu
    rcases List.mem_cons.1 hu with rfl | hu
    · have hx := h1 x (by simp)
      have := h.1.cells (by rw [cells_one hx]; simp [allOne, hx])
      rw [cells_one hx] at this
      have hl := this.1.length
      cases u <;> first | rfl | skip
      · obtain ⟨d, h⟩ := h.1
        cases d with
        | zero => exact h.elim
        | succ d => cases x <;> simp [AV.one] at hx <;> simp [Cz] at h
      · exact this.2 _ (by simp [Value.cells])
    · exact ones_of h.2 (fun y hy => h1 y (by simp [hy])) u hu
  | [], _ :: _, h, _ => h.elim
  | _ :: _, [], h, _ => h.elim

theorem new_reads {w' : World} {b s' : Nat} {S : Nat → Nat → Prop} {ρ' : Ro} {cs xs : List AV} {vs : List Value} {c : Array Value} {e : TypeId} {f : Nat × Nat} {k0 : Nat}
    (hb : w'.heap[b]? = some (.cells c e f)) (hc : ∀ (j : Nat) u, vs[j]? = some u → c[k0 + j]? = some u) (hS : ∀ j, j < vs.length → S b (k0 + j)) (ho : ∀ u ∈ vs, u.oneCell' = true) (hv : All2 (Val w' S ρ' 0) cs vs)
    (hx : ∀ (j : Nat) x, xs[j]? = some x → x.cells = (cs.drop (j * s')).take s' ∧ x.cells.length = s') :
    ∀ (i : Nat) x, xs[i]? = some x → ∃ us, All2 (Val w' S ρ' 0) x.cells us ∧ us.length = s' ∧ Reads w' S b (k0 + i * s') us := by
  intro i x hi
  obtain ⟨h1, h2⟩ := hx i x hi
  have h3 : All2 (Val w' S ρ' 0) ((cs.drop (i * s')).take s') ((vs.drop (i * s')).take s') := (hv.drop _).take _
  rw [← h1] at h3
  refine ⟨_, h3, by rw [← h3.length, h2], fun j u hu => ?_⟩
  rw [List.getElem?_take] at hu
  split at hu
  · rw [List.getElem?_drop] at hu
    refine ⟨?_, ?_, ho u (List.mem_of_getElem? hu)⟩
    · have := lt_of_get hu
      rw [Nat.add_assoc]; exact hS _ this
    · rw [cellAt_cells hb, Nat.add_assoc]; exact hc _ _ hu
  · simp at hu

theorem vals_depth2 {S : Nat → Nat → Prop} {s' : Nat} {b k0 : Nat} : ∀ {xs : List AV}, (∀ (i : Nat) x, xs[i]? = some x → ∃ us, All2 (Val w S ρ 0) x.cells us ∧ us.length = s' ∧ Reads w S b (k0 + i * s') us) →
    ∃ d, ∀ (i : Nat) x, xs[i]? = some x → ∃ us, All2 (Cz w S ρ d 0) x.cells us ∧ us.length = s' ∧ Reads w S b (k0 + i * s') us := by
  intro xs
  induction xs generalizing k0 with
  | nil => intro _; exact ⟨0, fun i x h => by simp at h⟩
  | cons x xs ih =>
    intro h
    obtain ⟨d, hd⟩ := ih (k0 := k0 + s') (fun i y hy => by
      have := h (i + 1) y (by simpa using hy)
      rwa [Nat.succ_mul, Nat.add_comm (i * s') s', ← Nat.add_assoc] at this)
    obtain ⟨us, h1, h2, h3⟩ := h 0 x rfl
    obtain ⟨d', h1⟩ := all2_depth h1
    refine ⟨max d d', fun i y hy => ?_⟩
    cases i with
    | zero => simp at hy; subst hy; exact ⟨us, h1.imp fun _ _ => Cz.le (Nat.le_max_right _ _), h2, h3⟩
    | succ i =>
      obtain ⟨us, k1, k2, k3⟩ := hd i y (by simpa using hy)
      refine ⟨us, k1.imp fun _ _ => Cz.le (Nat.le_max_left _ _), k2, ?_⟩
      rwa [Nat.succ_mul, Nat.add_comm (i * s') s', ← Nat.add_assoc]

theorem sound_buildSlice (ht : TabOk P tab) {t : TypeId} {n : Nat} {ps : Array (Nat × Operand)} (ho : o.op = .buildSlice t n ps) (hs : RelS ρ s a w) (h : aop (std P n₀) tab (.buildSlice t n ps) s K E) (hg : Goes ρ s a w o.dst K next) : o.wp P a w next Q := by
  simp only [aop] at h
  split at h
  case h_2 => exact h.elim
  rename_i e hk
  split at h
  case h_2 => exact h.elim
  rename_i hok
  split at h
  case h_2 => exact h.elim
  rename_i hlt
  split at h
  case h_2 => exact h.elim
  rename_i cs hf
  split at h
  case h_2 => exact h.elim
  rename_i xs hch
  simp only [Option.bind_eq_some_iff] at hch
  obtain ⟨cs', hfree, hch⟩ := hch
  obtain ⟨i, d, z, hty⟩ := ht.kind hk (by simp)
  have hd : d = .slice e := by have := hty.k; rw [hk] at this; cases d <;> simp [tkOf] at this; rw [this]
  subst hd
  obtain ⟨i', d', z', hty'⟩ := ht.ok hok
  rw [hty'.zeros] at hf
  obtain ⟨us, h1, h2⟩ := fill_sound (us := repl n z'.cells.toList) hf (parts_val hs ps.toList) (lits_repl _ _)
  have hst := rel_free hs.rel (.cells us e)
  obtain ⟨h3, h3'⟩ := freeL_val hfree (h2.imp fun _ _ h => h.step hst.1)
  obtain ⟨h4, h5⟩ := chunks_sound hty'.one n hch h3'
  have hrd := new_reads (k0 := 0) (b := w.heap.size) (S := Stay ρ s.hp) (ρ' := ρ) (w' := w.alloc (.cells us e)) heap_alloc_new (fun j u hu => by simpa using hu) (fun j _ => new_stay hs.rel _) (ones_of h3 h3') h3 h5
  obtain ⟨dd, hdd⟩ := vals_depth2 hrd
  refine wp_value (v := .slice (some ⟨w.heap.size, 0, none⟩) n n) (w' := w.alloc (.cells us e)) ?_ (hg.go _ _ _ _ _ h ⟨dd + 1, _, _, _, rfl, h4.symm, Nat.le_refl _, rfl, fun _ => ⟨_, _, rfl, hdd⟩⟩ hst.1 hst.2)
  have hsz := run_size hty' w
  have hz := run_zero hty' w
  have hu := run_und hty w
  have hlt' : ¬ n * (tab e).size > 2 ^ 24 := by simp only [Nat.blt_eq] at hlt; omega
  rw [← toList_parts] at h1
  have hzero : ∀ zz : Array Value, (n * (tab e).size = 0 → zz = #[]) → (n * (tab e).size ≠ 0 → zz = z'.cells) → ((Array.range (n * (tab e).size)).map fun i => zz[i % zz.size]!) = (repl n z'.cells.toList).toArray := by
    intro zz e0 e1
    by_cases he : n * (tab e).size = 0
    · rw [he]
      apply Array.ext'
      have : (repl n z'.cells.toList).length = 0 := by rw [repl_length]; simp [hty'.zsize, he]
      simp [List.eq_nil_of_length_eq_zero this]
    · rw [e1 he]; exact zeros_repl _ _ _ (by rw [hty'.zsize])
  by_cases he : n * (tab e).size = 0
  · have hz0 := hzero #[] (fun _ => rfl) (fun e => absurd he e)
    simp only [he] at hz0
    have h00 : ¬ (0 : Nat) > 2 ^ 24 := by omega
    simp only [execOp, ho, Instr.buildSlice, Sem.run_bind, hu, hsz, Result.andThen_ok, Sem.run_ite, he, h00, if_true, if_false, Sem.run_pure, hz0, h1]
    simp [newRow, World.alloc_eq]
  · have hz0 := hzero z'.cells (fun e => absurd e he) (fun _ => rfl)
    simp only [execOp, ho, Instr.buildSlice, Sem.run_bind, hu, hsz, Result.andThen_ok, Sem.run_ite, he, hlt', if_false, hz, Sem.run_pure, hz0, h1]
    simp [newRow, World.alloc_eq]

end
end Go.Pt
