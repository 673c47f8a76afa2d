/- Each operation that the abstract machine does is one that the model does. -/
import Derived.Test.YtilffanmaicakaaAmVec
namespace Go.Pt
open Go

section
variable {P : Program} {n₀ : Nat} {tab : Nat → Ty} {w : World} {ρ : Ro} {s : St} {a : Act} {o : Oper} {K E : AV → List Ent → Prop} {next : Act → World → Prop} {Q : Exit → Act → World → Prop}

theorem wp_value {v : Value} {w' : World} (h : (execOp a.eval o).run P w = .ok (.value v) w') (hn : next (a.put o.dst v) w') : o.wp P a w next Q := by
  unfold Oper.wp; rw [h]; exact hn

theorem wp_skip' {w' : World} (h : (execOp a.eval o).run P w = .ok .skip w') (hn : next (a.put o.dst undef) w') : o.wp P a w next Q := by
  unfold Oper.wp; rw [h]; exact hn

theorem Goes.here (hg : Goes ρ s a w o.dst K next) (hs : RelS ρ s a w) {v : AV} {u : Value} (hk : K v s.hp) (hv : Val w (Stay ρ s.hp) ρ s.hp.length v u) : next (a.put o.dst u) w :=
  hg.go v u ρ s.hp w hk hv (Stp.refl _ _ _) hs.rel

theorem sound_move {x : Operand} (ho : o.op = .move x ∨ o.op = .assign x) (hs : RelS ρ s a w) (h : K (s.ev x) s.hp) (hg : Goes ρ s a w o.dst K next) : o.wp P a w next Q :=
  wp_value (v := a.eval x) (w' := w) (by rcases ho with ho | ho <;> simp [execOp, ho]) (hg.here hs h (ev_val hs x))

theorem sound_load (ht : TabOk P tab) {t : TypeId} {x : Operand} (ho : o.op = .load t x) (hs : RelS ρ s a w) (h : aop (std P n₀) tab (.load t x) s K E) (hg : Goes ρ s a w o.dst K next) : o.wp P a w next Q := by
  have hx := ev_val hs x
  simp only [aop] at h
  have fin : ∀ {b o' off : Nat} {vs : List Value} {cs : List AV} {av : AV} {n : Nat}, n ≤ s.hp.length → a.eval x = .pointer (some ⟨b, o' + off, none⟩) → (∀ (j : Nat) u, vs[j]? = some u → cellAt w b (o' + j) = some u) →
      All2 (Val w (Stay ρ s.hp) ρ n) cs vs → rd (tab t) cs off = some av → K av s.hp → o.wp P a w next Q := by
    intro b o' off vs cs av n hn he hm hc hr hk
    have hok : (tab t).ok = true := by unfold rd at hr; split at hr <;> simp_all
    obtain ⟨i, d, z, hty⟩ := ht.ok hok
    obtain ⟨u, h1, h2⟩ := run_loadVar_at (P := P) hty hm hc hr
    refine wp_value (v := u) (w' := w) ?_ (hg.here hs hk (h2.keep ⟨fun _ _ _ a b => ⟨a, b⟩, hn, fun _ _ => rfl, fun _ _ => .inl rfl⟩))
    simp [execOp, ho, Instr.loadAt, Instr.sureAddr, he, h1]
  split at h
  · rename_i id off e
    rw [e] at hx
    obtain ⟨hlt, hv⟩ := val_ptr hx
    rw [nth_eq] at h
    split at h
    · rename_i cs hcs
      split at h
      · rename_i av hr
        obtain ⟨vs, ty, h1, h2⟩ := hs.rel.ents id _ hcs
        refine fin (o' := 0) (Nat.le_refl _) (by simpa using hv) (fun j u hu => ?_) h1 hr h
        rw [Nat.zero_add, cellAt_cells h2]; simpa using hu
      · exact h.elim
    · exact h.elim
  · rename_i cs off e
    rw [e] at hx
    obtain ⟨b, o', vs, hv, h1, h2⟩ := val_cptr hx
    split at h
    · rename_i av hr
      exact fin (Nat.zero_le _) hv (fun j u hu => (h2 j u hu).2.1) h1 hr h
    · exact h.elim
  · rename_i id z i off e
    rw [e] at hx
    obtain ⟨hlt, b, o', hv, hloc⟩ := val_vp hx
    rw [nth_eq] at h
    split at h
    case h_2 => exact h.elim
    rename_i z' xs hcs
    split at h
    case h_2 => exact h.elim
    rename_i hz
    have hz' := Nat.eq_of_beq_eq_true hz
    subst hz'
    obtain ⟨hp, _, _, hel⟩ := hs.rel.ents id _ hcs
    obtain ⟨k, rfl, rfl, rfl⟩ := hloc hp
    obtain ⟨⟨h0, h1⟩, hk⟩ := h
    replace h1 : (k : Int) < xs.length := h1
    replace hk : ∀ e, xs[(k : Int).toNat]? = some e → _ := hk
    have hkl : k < xs.length := by omega
    have hx' : xs[k]? = some xs[k] := by simp [hkl]
    have h := hk xs[k] hx'
    obtain ⟨vs, g1, g2, g3⟩ := hel k _ hx'
    split at h
    · rename_i av hr
      exact fin (o' := (ρ.t id).start + k * z) (Nat.zero_le _) hv (fun j u hu => (g3 j u hu).1) g1 hr h
    · exact h.elim
  · exact h.elim

theorem sound_store (ht : TabOk P tab) {t : TypeId} {x y : Operand} (ho : o.op = .store t x y) (hs : RelS ρ s a w) (h : aop (std P n₀) tab (.store t x y) s K E) (hg : Goes ρ s a w o.dst K next) : o.wp P a w next Q := by
  have hx := ev_val hs x
  have hy := ev_val hs y
  simp only [aop] at h
  split at h
  case h_3 => exact h.elim
  case h_2 =>
    rename_i id z i off e
    rw [e] at hx
    obtain ⟨hlt, b, o', hv, hloc⟩ := val_vp hx
    rw [nth_eq] at h
    split at h
    case h_2 => exact h.elim
    rename_i z' xs hcs
    split at h
    case h_2 => exact h.elim
    rename_i hz
    have hz' := Nat.eq_of_beq_eq_true hz
    subst hz'
    split at h
    case h_2 => exact h.elim
    rename_i hpos
    split at h
    case h_2 => exact h.elim
    rename_i hsz
    split at h
    case h_2 => exact h.elim
    rename_i ys hfr
    have hent := hs.rel.ents id _ hcs
    have hent' := hent
    obtain ⟨hp, hlen, hblk, hel⟩ := hent'
    obtain ⟨k, rfl, rfl, rfl⟩ := hloc hp
    obtain ⟨ti, td, tz, hty⟩ := ht.pos hpos
    have hpos' : 0 < (tab t).size := by simpa [Nat.blt_eq] using hpos
    have hsz' : (s.ev y).cells.length = (tab t).size := by
      have := Nat.eq_of_beq_eq_true hsz; rwa [lenN_eq] at this
    have hcells : allOne (s.ev y).cells = true := freeL_one hfr
    obtain ⟨hc, h1c⟩ := hy.cells hcells
    have hcl := hc.length
    obtain ⟨hf1, hf2⟩ := freeL_val hfr hc
    have hfl := hf1.length
    have hsize : (a.eval y).cells.size = (tab t).size := by rw [← hsz', hcl]; simp
    have run : ∀ {q : Nat}, a.eval x = .pointer (some ⟨(ρ.t id).blk, q, none⟩) → (ρ.t id).start ≤ q → q + (tab t).size ≤ (ρ.t id).stop → (execOp a.eval o).run P w = .ok .skip (w.setCells (ρ.t id).blk q (a.eval y).cells.toList) := by
      intro q hq h1 h2
      have hcc := vec_cells hent h1 h2
      have := run_storeCells_cells (P := P) (ρ.t id).blk q (a.eval y).cells.toList 0 w (fun j hj => by rw [Nat.add_zero]; exact (hcc j (by simp [hsize] at hj; exact hj)).1) (fun j hj => by rw [Nat.add_zero]; exact (hcc j (by simp [hsize] at hj; exact hj)).2) h1c
      rw [Nat.add_zero] at this
      simp [execOp, ho, Instr.storeAt, Instr.sureAddr, hq, storeVar, run_size hty, hsize, this]
    split at h
    · rename_i hzz
      have hzz' := Nat.eq_of_beq_eq_true hzz
      split at h
      case h_2 => exact h.elim
      obtain ⟨⟨h0, h1⟩, h⟩ := h
      replace h1 : (k : Int) < xs.length := h1
      replace h : K .junk (setN s.hp id (.vec z (xs.set (k : Int).toNat (unc (s.ev y) ys)))) := h
      have hkl : k < xs.length := by omega
      have hb : (ρ.t id).start + (k + [unc (s.ev y) ys].length) * z ≤ (ρ.t id).stop := by
        have := Nat.mul_le_mul_right z (show k + 1 ≤ xs.length by omega)
        simp only [List.length_singleton]; omega
      have hst := rel_lay hs.rel (ys := [unc (s.ev y) ys]) (p := k) (news := (a.eval y).cells.toList) hcs (by omega) hb (by simp [hsize, hzz']) h1c (fun j v hv => by
        cases j with
        | succ j => simp at hv
        | zero =>
          simp at hv; subst hv
          exact ⟨_, by rw [unc_cells hfr hf2]; exact hf1, by simp [hsize, hzz'], fun j u hu => by simpa using hu⟩)
      have e' : xs.take k ++ [unc (s.ev y) ys] ++ xs.drop (k + [unc (s.ev y) ys].length) = xs.set (k : Int).toNat (unc (s.ev y) ys) := by
        rw [Int.toNat_natCast, List.set_eq_take_append_cons_drop, if_pos hkl]; simp
      rw [e'] at hst
      have hbz : (ρ.t id).start + k * z + (tab t).size ≤ (ρ.t id).stop := by
        simp only [List.length_singleton, Nat.add_mul, Nat.one_mul] at hb; omega
      exact wp_skip' (run (by rw [hv]; simp) (by omega) hbz) (hg.go _ _ _ _ _ h Val.junk hst.1 hst.2)
    · obtain ⟨⟨h0, h1⟩, hk⟩ := h
      replace h1 : (k : Int) < xs.length := h1
      replace hk : ∀ e, xs[(k : Int).toNat]? = some e → _ := hk
      have hkl : k < xs.length := by omega
      have hx' : xs[k]? = some xs[k] := by simp [hkl]
      have h := hk xs[k] hx'
      split at h
      case h_2 => exact h.elim
      rename_i cs hcse
      split at h
      case h_2 => exact h.elim
      rename_i cs' hup
      obtain ⟨vs, g1, g2, g3⟩ := hel k _ hx'
      rw [hcse] at g1
      replace g1 : All2 (Val w (Stay ρ s.hp) ρ 0) cs vs := g1
      obtain ⟨hcs', hle, hlen'⟩ := upon_eq _ _ _ hup
      have hyl : ys.length = (tab t).size := by rw [hfl]; simp [hsize]
      have hle' := hle (by intro e; simp [e] at hyl; omega)
      have hgl := g1.length
      have hbz := el_lt (n := xs.length) (s := z) (j := z - 1) hkl (by omega)
      have hq : (ρ.t id).start + k * z + off + (tab t).size ≤ (ρ.t id).stop := by omega
      replace h : K .junk (setN s.hp id (.vec z (xs.set (k : Int).toNat (.agg cs')))) := h
      rw [Int.toNat_natCast] at h
      have hnl : (a.eval y).cells.toList.length = (tab t).size := by simp [hsize]
      have hst := rel_row hs.rel (xs' := xs.set k (.agg cs')) (q := (ρ.t id).start + k * z + off) (news := (a.eval y).cells.toList) hcs (by omega) (by rw [hnl]; exact hq) (by simpa using hlen) (fun m e hm => by
        obtain ⟨c, e', f, q1, q2, q3⟩ := hblk (by omega)
        obtain ⟨c', k1, k2, k3, k4⟩ := setCells_heap (ρ.t id).blk (a.eval y).cells.toList ((ρ.t id).start + k * z + off) w q1
        rw [List.getElem?_set] at hm
        split at hm
        · rename_i hmk
          subst hmk
          simp [hkl] at hm; subst hm
          refine ⟨vs.take off ++ (a.eval y).cells.toList ++ vs.drop (off + (a.eval y).cells.toList.length), ?_, ?_, fun j u hu => ?_⟩
          · rw [show (AV.agg cs').cells = cs' from rfl, hcs']
            exact ((g1.take off).append hf1).append (by rw [hfl]; exact g1.drop _)
          · simp; omega
          · rw [cellAt_cells k1]
            rw [List.append_assoc, List.getElem?_append] at hu
            have hto : (vs.take off).length = off := by simp; omega
            rw [hto] at hu
            split at hu
            · rename_i hjo
              rw [List.getElem?_take, if_pos hjo] at hu
              obtain ⟨g4, g5⟩ := g3 j u hu
              rw [cellAt_cells q1] at g4
              exact ⟨by rw [k3 _ (by left; omega)]; exact g4, g5⟩
            · rename_i hjo
              rw [List.getElem?_append] at hu
              split at hu
              · rename_i hj2
                have := k4 (by rw [hnl]; omega) _ u hu
                exact ⟨by rw [← this]; congr 1; omega, h1c u (List.mem_of_getElem? hu)⟩
              · rename_i hj2
                rw [List.getElem?_drop] at hu
                have hjj : off + (a.eval y).cells.toList.length + (j - off - (a.eval y).cells.toList.length) = j := by omega
                rw [hjj] at hu
                obtain ⟨g4, g5⟩ := g3 j u hu
                rw [cellAt_cells q1] at g4
                exact ⟨by rw [k3 _ (by right; omega)]; exact g4, g5⟩
        · rename_i hmk
          obtain ⟨us, p1, p2, p3⟩ := hel m e hm
          refine ⟨us, p1, p2, fun j u hu => ?_⟩
          obtain ⟨p4, p5⟩ := p3 j u hu
          rw [cellAt_cells q1] at p4
          rw [cellAt_cells k1]
          have hju := lt_of_get hu
          have hml := lt_of_get hm
          refine ⟨?_, p5⟩
          rw [k3 _ ?_]
          · exact p4
          · rcases Nat.lt_or_ge m k with hmk' | hmk'
            · left
              have := el_lt (n := k) (s := z) (j := j) hmk' (by omega); omega
            · right
              have := el_lt (n := m) (s := z) (j := z - 1) (show k < m by omega) (by omega)
              rw [hnl]; omega)
      exact wp_skip' (run hv (by omega) hq) (hg.go _ _ _ _ _ h Val.junk hst.1 hst.2)
  rename_i id off e
  rw [e] at hx
  obtain ⟨hlt, hv⟩ := val_ptr hx
  rw [nth_eq] at h
  split at h
  case h_2 => exact h.elim
  rename_i cs hcs
  split at h
  case h_2 => exact h.elim
  rename_i hpos
  split at h
  case h_2 => exact h.elim
  rename_i hsz
  split at h
  case h_2 => exact h.elim
  rename_i hone
  split at h
  case h_2 => exact h.elim
  rename_i cs' hup
  obtain ⟨vs, ty, h1, h2⟩ := hs.rel.ents id _ hcs
  obtain ⟨hc, h1c⟩ := hy.cells hone
  obtain ⟨rfl, hle, hlen⟩ := upon_eq _ _ _ hup
  have hcl := hc.length
  have hvl := h1.length
  have hsz' : (s.ev y).cells.length = (tab t).size := by
    have := Nat.eq_of_beq_eq_true hsz; rwa [lenN_eq] at this
  obtain ⟨i, d, z, hty⟩ := ht.pos hpos
  have hpos' : 0 < (tab t).size := by simpa [Nat.blt_eq] using hpos
  have hle' : off + (s.ev y).cells.length ≤ cs.length := hle (by intro e; simp [e] at hsz'; omega)
  have hsize : (a.eval y).cells.size = (tab t).size := by rw [← hsz', hcl]; simp
  have hrun := run_storeCells_at (P := P) (ρ.b id) off ty (a.eval y).cells.toList 0 vs.toArray w h2 (by simp; omega) h1c
  have hst := rel_store hs.rel (cs' := cs.take off ++ (s.ev y).cells ++ cs.drop (off + (s.ev y).cells.length)) (vs' := vs.take off ++ (a.eval y).cells.toList ++ vs.drop (off + (a.eval y).cells.toList.length)) hcs h2
    (by simp; omega) (((h1.take off).append hc).append (by rw [hcl]; exact h1.drop _))
  refine wp_skip' (w' := w.setRow (ρ.b id) (vs.take off ++ (a.eval y).cells.toList ++ vs.drop (off + (a.eval y).cells.toList.length)).toArray) ?_ (hg.go _ _ _ _ _ h Val.junk hst.1 hst.2)
  simp only [Nat.add_zero] at hrun
  simp [execOp, ho, Instr.storeAt, Instr.sureAddr, hv, storeVar, run_size hty, hsize, hrun]

theorem sound_pick {c x y : Operand} (ho : o.op = .pick c x y) (hs : RelS ρ s a w) (h : aop (std P n₀) tab (.pick c x y) s K E) (hg : Goes ρ s a w o.dst K next) : o.wp P a w next Q := by
  have hc := ev_val hs c
  have hx := ev_val hs x
  have hy := ev_val hs y
  have run : ∀ {b : Bool}, a.eval c = .bool b → (execOp a.eval o).run P w = .ok (.value (if b then a.eval x else a.eval y)) w := by
    intro b e
    simp only [execOp, ho, e, asBool]
    cases b <;> rfl
  have und : ∀ {g : Bool} {v : AV} {u : Value} {R : AV → Prop}, under g v R → Val w (Stay ρ s.hp) ρ s.hp.length v u → ∃ v', R v' ∧ (g = true → Val w (Stay ρ s.hp) ρ s.hp.length v' u) := by
    intro g v u R h hv
    unfold under at h
    split at h
    · exact ⟨_, h.2, fun e => (val_cond hv).1 (h.1 e)⟩
    · exact ⟨_, h, fun _ => hv⟩
  simp only [aop] at h
  split at h
  · rename_i e; rw [e] at hc
    obtain ⟨v, hk, hv⟩ := und h hx
    exact wp_value (run (val_bl hc)) (hg.here hs hk (by simpa using hv rfl))
  · rename_i e; rw [e] at hc
    obtain ⟨v, hk, hv⟩ := und h hy
    exact wp_value (run (val_bl hc)) (hg.here hs hk (by simpa using hv rfl))
  · rename_i b e; rw [e] at hc
    obtain ⟨v, h, hv⟩ := und h hx
    obtain ⟨u, h, hu⟩ := und h hy
    have tel : ∀ {v : AV} {t : Bool} {u : Value}, v.tell = some t → Val w (Stay ρ s.hp) ρ s.hp.length v u → u = .bool t := by
      intro v t u e h
      unfold AV.tell at e
      split at e <;> simp at e <;> subst e
      · exact val_bool h
      · exact val_bl h
    split at h
    case h_2 => exact h.elim
    rename_i p hp
    split at h
    case h_2 => exact h.elim
    rename_i q hq
    refine wp_value (run (val_bool hc)) (hg.here hs h ⟨1, ?_⟩)
    simp only [Cz, std, stdOps]
    cases b
    · simpa using tel hq (hu rfl)
    · simpa using tel hp (hv rfl)
  · exact h.elim

theorem sound_alloc (ht : TabOk P tab) {t : TypeId} (ho : o.op = .alloc t) (hs : RelS ρ s a w) (h : aop (std P n₀) tab (.alloc t) s K E) (hg : Goes ρ s a w o.dst K next) : o.wp P a w next Q := by
  simp only [aop] at h
  split at h
  case h_2 => exact h.elim
  rename_i hok
  obtain ⟨i, d, z, hty⟩ := ht.ok hok
  rw [lenN_eq, snoc_eq, hty.zeros] at h
  have hst := rel_var hs.rel t (lits_val (w := w) (S := Stay ρ s.hp) (ρ := ρ) (n := s.hp.length) z.cells.toList)
  refine wp_value (v := .pointer (some ⟨w.heap.size, 0, none⟩)) (w' := w.alloc (.cells z.cells.toList.toArray t)) ?_ (hg.go _ _ _ _ _ h ⟨1, ?_⟩ hst.1 hst.2)
  · simp [execOp, ho, Instr.alloc, run_zero hty, newVar, newRow, World.alloc_eq]
  · simp [Cz, Ro.add]

theorem sound_box {t : TypeId} {x : Operand} (ho : o.op = .box t x) (hs : RelS ρ s a w) (h : aop (std P n₀) tab (.box t x) s K E) (hg : Goes ρ s a w o.dst K next) : o.wp P a w next Q := by
  simp only [aop] at h
  split at h
  case h_2 => exact h.elim
  rename_i hone
  obtain ⟨hc, _⟩ := (ev_val hs x).cells hone
  rw [lenN_eq, snoc_eq] at h
  have hst := rel_var hs.rel t hc
  refine wp_value (v := .pointer (some ⟨w.heap.size, 0, none⟩)) (w' := w.alloc (.cells (a.eval x).cells.toList.toArray t)) ?_ (hg.go _ _ _ _ _ h ⟨1, ?_⟩ hst.1 hst.2)
  · simp [execOp, ho, Instr.box, newVar, newRow, World.alloc_eq]
  · simp [Cz, Ro.add]

theorem sound_nilCheck {x : Operand} (ho : o.op = .nilCheck x) (hs : RelS ρ s a w) (h : aop (std P n₀) tab (.nilCheck x) s K E) (hg : Goes ρ s a w o.dst K next) : o.wp P a w next Q := by
  have hx := ev_val hs x
  simp only [aop] at h
  split at h
  · rename_i e; rw [e] at hx
    refine wp_value (v := a.eval x) (w' := w) ?_ (hg.here hs h hx)
    simp [execOp, ho, (val_ptr hx).2]
  · rename_i e; rw [e] at hx
    obtain ⟨b, o', vs, hv, _⟩ := val_cptr hx
    refine wp_value (v := a.eval x) (w' := w) ?_ (hg.here hs h hx)
    simp [execOp, ho, hv]
  · rename_i e; rw [e] at hx
    obtain ⟨_, b, o', hv, _⟩ := val_vp hx
    refine wp_value (v := a.eval x) (w' := w) ?_ (hg.here hs h hx)
    simp [execOp, ho, hv]
  · rename_i e; rw [e] at hx
    obtain ⟨vs, hv, _⟩ := val_func hx
    refine wp_value (v := a.eval x) (w' := w) ?_ (hg.here hs h hx)
    simp [execOp, ho, hv]
  · exact h.elim

theorem sound_extract {x : Operand} {i : Nat} (ho : o.op = .extract x i) (hs : RelS ρ s a w) (h : aop (std P n₀) tab (.extract x i) s K E) (hg : Goes ρ s a w o.dst K next) : o.wp P a w next Q := by
  have hx := ev_val hs x
  simp only [aop] at h
  split at h
  case h_2 => exact h.elim
  rename_i vs e; rw [e] at hx
  obtain ⟨us, hv, hc⟩ := val_tup hx
  rw [nth_eq] at h
  split at h
  case h_2 => exact h.elim
  rename_i v hi
  obtain ⟨u, hu, hvu⟩ := hc.get hi
  refine wp_value (v := u) (w' := w) ?_ (hg.here hs h hvu)
  simp [execOp, ho, hv, Instr.extract, hu]

theorem sound_unOp {u : UnOp} {t : TypeId} {x : Operand} (ho : o.op = .unOp u t x) (hs : RelS ρ s a w) (h : aop (std P n₀) tab (.unOp u t x) s K E) (hg : Goes ρ s a w o.dst K next) : o.wp P a w next Q := by
  have hx := ev_val hs x
  simp only [aop] at h
  split at h
  · split at h
    · rename_i b e; rw [e] at hx
      refine wp_value (v := .bool (!b)) (w' := w) ?_ (hg.here hs h ⟨1, rfl⟩)
      simp [execOp, ho, val_bool hx, Op.unary]
    · rename_i b e; rw [e] at hx
      refine wp_value (v := .bool (!b)) (w' := w) ?_ (hg.here hs h ⟨1, rfl⟩)
      simp [execOp, ho, val_bl hx, Op.unary]
    · exact h.elim
  · split at h
    · rename_i k n e; rw [e] at hx
      refine wp_value (v := .int k (k.wrap (0 - n))) (w' := w) ?_ (hg.here hs h ⟨1, rfl⟩)
      simp [execOp, ho, val_int hx, Op.unary, Op.intArith]
    · exact h.elim
  · split at h
    · rename_i k n e; rw [e] at hx
      refine wp_value (v := .int k (bits .xor k (if k.signed then -1 else k.max) n)) (w' := w) ?_ (hg.here hs h ⟨1, rfl⟩)
      simp [execOp, ho, val_int hx, Op.unary, Op.intBits, bits]
    · exact h.elim
  · exact h.elim

theorem sound_convert (ht : TabOk P tab) {t t' : TypeId} {x : Operand} (ho : o.op = .convert t t' x) (hs : RelS ρ s a w) (h : aop (std P n₀) tab (.convert t t' x) s K E) (hg : Goes ρ s a w o.dst K next) : o.wp P a w next Q := by
  have hx := ev_val hs x
  simp only [aop] at h
  split at h
  case h_2 => exact h.elim
  rename_i hsrc
  split at h
  case h_2 => exact h.elim
  rename_i k hk
  split at h
  case h_2 => exact h.elim
  rename_i k' n e; rw [e] at hx
  obtain ⟨i0, d0, z0, hty0⟩ := ht.ok hsrc
  obtain ⟨i, d, z, hty⟩ := ht.kind hk (by simp)
  have hd : d = .int k := by
    have := hty.k; rw [hk] at this
    cases d <;> simp [tkOf] at this; rw [this]
  refine wp_value (v := .int k (k.wrap n)) (w' := w) ?_ (hg.here hs h ⟨1, rfl⟩)
  have h1 := run_und hty0 w
  have h2 := run_und hty w
  rw [hd] at h2
  simp [execOp, ho, val_int hx, convert, h1, h2, Conv.intToInt]

theorem sound_fieldAddr (ht : TabOk P tab) {t : TypeId} {x : Operand} {f : Nat} (ho : o.op = .fieldAddr t x f) (hs : RelS ρ s a w) (h : aop (std P n₀) tab (.fieldAddr t x f) s K E) (hg : Goes ρ s a w o.dst K next) : o.wp P a w next Q := by
  have hx := ev_val hs x
  simp only [aop] at h
  split at h
  case h_2 => exact h.elim
  rename_i ft off hf
  split at h
  case h_2 => exact h.elim
  rename_i hpos
  unfold TK.fld at hf
  split at hf
  case h_2 => simp at hf
  rename_i fs hk
  obtain ⟨i, d, z, hty⟩ := ht.kind hk (by simp)
  obtain ⟨i', d', z', hty'⟩ := ht.pos hpos
  have hd : ∃ fields, d = .struct fields ∧ fs = fields.toList.map fun f => (f.type, f.offset) := by
    have := hty.k; rw [hk] at this
    cases d <;> simp [tkOf] at this; exact ⟨_, rfl, this⟩
  obtain ⟨fields, rfl, rfl⟩ := hd
  rw [nth_eq, List.getElem?_map, Option.map_eq_some_iff] at hf
  obtain ⟨fd, hfd, hfe⟩ := hf
  simp only [Prod.mk.injEq] at hfe
  obtain ⟨rfl, rfl⟩ := hfe
  have hpos' : (tab fd.type).size ≠ 0 := by have := hpos; simp [Nat.blt_eq] at this; omega
  have run : ∀ {b o' : Nat}, a.eval x = .pointer (some ⟨b, o', none⟩) → (execOp a.eval o).run P w = .ok (.value (.pointer (some ⟨b, o' + fd.offset, none⟩))) w := by
    intro b o' e
    have h1 := run_und hty w
    have h2 := run_size hty' w
    have : fields[f]? = some fd := by simpa using hfd
    simp only [execOp, ho, Instr.fieldAt, e, Sem.run_bind, h1, Result.andThen_ok, this, Instr.sureAddr, Sem.run_pure, fieldPlace, h2, hpos', if_false, Addr.add]
    split
    · rename_i e0; simp [e0]
    · rfl
  split at h
  · rename_i id o' e; rw [e] at hx
    obtain ⟨hlt, hv⟩ := val_ptr hx
    exact wp_value (run hv) (hg.here hs h ⟨1, hlt, rfl⟩)
  · rename_i cs o' e; rw [e] at hx
    obtain ⟨b, o'', vs, hv, h1, h2⟩ := val_cptr hx
    obtain ⟨dd, h1⟩ := all2_depth h1
    exact wp_value (run hv) (hg.here hs h ⟨dd + 1, b, o'', vs, by rw [Nat.add_assoc], h1, h2⟩)
  · rename_i id z i o' e; rw [e] at hx
    obtain ⟨h1, b, o'', hv, h2⟩ := val_vp hx
    refine wp_value (run hv) (hg.here hs h ⟨1, h1, b, _, rfl, fun hp => ?_⟩)
    obtain ⟨k, e1, e2, e3⟩ := h2 hp
    exact ⟨k, e1, e2, by rw [e3]; omega⟩
  · exact h.elim

theorem sound_field (ht : TabOk P tab) {t : TypeId} {x : Operand} {f : Nat} (ho : o.op = .field t x f) (hs : RelS ρ s a w) (h : aop (std P n₀) tab (.field t x f) s K E) (hg : Goes ρ s a w o.dst K next) : o.wp P a w next Q := by
  have hx := ev_val hs x
  simp only [aop] at h
  split at h
  case h_2 => exact h.elim
  rename_i ft off hf
  unfold TK.fld at hf
  split at hf
  case h_2 => simp at hf
  rename_i fs hk
  obtain ⟨i, d, z, hty⟩ := ht.kind hk (by simp)
  split at h
  case h_2 => exact h.elim
  rename_i cs e; rw [e] at hx
  obtain ⟨vs, hv, hc⟩ := val_agg hx
  split at h
  case h_2 => exact h.elim
  rename_i v hr
  have hok : (tab ft).ok = true := by unfold rd at hr; split at hr <;> simp_all
  obtain ⟨i', d', z', hty'⟩ := ht.ok hok
  have hd : ∃ fields, d = .struct fields ∧ fs = fields.toList.map fun f => (f.type, f.offset) := by
    have := hty.k; rw [hk] at this
    cases d <;> simp [tkOf] at this; exact ⟨_, rfl, this⟩
  obtain ⟨fields, rfl, rfl⟩ := hd
  rw [nth_eq, List.getElem?_map, Option.map_eq_some_iff] at hf
  obtain ⟨fd, hfd, hfe⟩ := hf
  simp only [Prod.mk.injEq] at hfe
  obtain ⟨rfl, rfl⟩ := hfe
  have hfd' : fields[f]? = some fd := by simpa using hfd
  have h1 := run_und hty w
  have h2 := run_size hty' w
  have h3 := run_agg hty' w
  unfold rd at hr
  simp only [hok] at hr
  split at hr
  · rename_i ha
    simp only [Option.map_eq_some_iff] at hr
    obtain ⟨r, hr, rfl⟩ := hr
    have hcut : r = (cs.drop fd.offset).take (tab fd.type).size := by
      rcases cut_eq _ _ _ hr with ⟨h1, _⟩ | ⟨h1, h2⟩
      · exact h1
      · simp [h1, h2]
    subst hcut
    have h2' : All2 (Val w (Stay ρ s.hp) ρ s.hp.length) ((cs.drop fd.offset).take (tab fd.type).size) ((vs.drop fd.offset).take (tab fd.type).size) := (hc.drop _).take _
    obtain ⟨dd, hdd⟩ := all2_depth h2'
    refine wp_value (v := .agg ((vs.drop fd.offset).take (tab fd.type).size).toArray) (w' := w) ?_ (hg.here hs h ⟨dd + 1, _, rfl, hdd⟩)
    have hex : vs.toArray.extract fd.offset (fd.offset + (tab fd.type).size) = ((vs.drop fd.offset).take (tab fd.type).size).toArray := by
      apply Array.ext'
      simp [List.extract_eq_take_drop]
    simp [execOp, ho, Instr.field, hv, h1, hfd', asAgg, part, h3, ha, h2, List.extract_eq_take_drop]
  · rename_i ha
    rw [nth_eq] at hr
    obtain ⟨u, hu, hvu⟩ := hc.get hr
    refine wp_value (v := u) (w' := w) ?_ (hg.here hs h hvu)
    simp [execOp, ho, Instr.field, hv, h1, hfd', asAgg, part, h3, ha, hu]

end
end Go.Pt
