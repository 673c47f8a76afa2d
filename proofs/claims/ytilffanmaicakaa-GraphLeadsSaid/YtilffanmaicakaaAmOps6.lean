/- Each operation that the abstract machine does is one that the model does: all of them, together. -/
import Derived.Test.YtilffanmaicakaaAmVecOps
import Derived.Laws.MakeOwn
namespace Go.Pt
open Go

section
variable {P : Program} {n₀ : Nat} {tab : Nat → Ty} {w : World} {ρ : Ro} {s : St} {a : Act} {o : Oper} {K E : AV → List Ent → Prop} {next : Act → World → Prop} {Q : Exit → Act → World → Prop}

theorem run_bi {b : Builtin} {args : Array Operand} {ts : Array TypeId} {r : Value} {w' : World} {us : List Value} (ho : o.op = .call ⟨.builtin b, args, ts⟩) {f : Sem Value} (hus : args.map a.eval = us.toArray)
    (hb : ∀ cs, builtin b ts o.type cs us.toArray = (do pure (.value (← f)) : Sem Next)) (h : f.run P w = .ok r w') :
    (execOp a.eval o).run P w = .ok (.value r) w' := by
  simp only [execOp, ho, resolve, hus, Sem.run_bind, Sem.run_pure, Result.andThen_ok, invoke]
  rw [hb]
  simp [h]

theorem run_getMap {b : Nat} {ms : Array MapEntry} {c : Nat} (h : w.heap[b]? = some (.map ms c)) : (getObj b).run P w = .ok (.map ms c) w := by simp [getObj, Sem.run, h]

theorem sound_append (ht : TabOk P tab) {args : Array Operand} {ts : Array TypeId} {x y : AV} {v1 v2 : Value} {t u e : TypeId} {l : List TypeId} (ho : o.op = .call ⟨.builtin .append, args, ts⟩) (hs : RelS ρ s a w)
    (hus : args.map a.eval = [v1, v2].toArray) (hts : ts.toList = t :: u :: l) (h1 : Val w (Stay ρ s.hp) ρ s.hp.length x v1) (h2 : Val w (Stay ρ s.hp) ρ s.hp.length y v2) (hk : (tab t).k = .slice e)
    (h : apA (std P n₀) (tab u) (tab e) x y s.hp K) (hg : Goes ρ s a w o.dst K next) : o.wp P a w next Q := by
  unfold apA at h
  split at h
  case h_2 => exact h.elim
  rename_i hbp
  have hbp' : 0 < (tab e).bytes := by simpa [Nat.blt_eq] using hbp
  obtain ⟨ie, de, ze, hty⟩ := ht.of (t := e) (fun he => by rw [he] at hbp'; simp [Ty.no] at hbp')
  have hut := und_slice ht hk
  split at h
  · exact h.elim
  rename_i xs' tok hx
  have hx' := asSl_val hx h1
  have fin : ∀ {ys : List AV} {news : List Value}, Apps P w (Stay ρ s.hp) ρ (tab e).size u v2 ys news → (xs'.length + ys.length) * (tab e).bytes ≤ 2 ^ 47 → app (std P n₀) (tab e).size xs' ys tok s.hp K → o.wp P a w next Q := by
    intro ys news ha hb hk
    obtain ⟨r, w', ρ', σ', av, hr, hka, hva, hst, hrel⟩ := sound_app (ty := o.type) hut hty rfl hs hx' ha hb hbp' hk
    refine wp_value (run_bi (f := Builtin.append_ ts o.type #[v1, v2]) ho hus (fun cs => rfl) ?_) (hg.go _ _ _ _ _ hka hva hst hrel)
    have : ts = (t :: u :: l).toArray := by apply Array.ext'; simpa using hts
    rw [this]
    have e1 : Builtin.append_ (t :: u :: l).toArray o.type #[v1, v2] = Builtin.append_ #[t, u] o.type #[v1, v2] := by simp [Builtin.append_]
    rw [e1]; exact hr
  split at h
  · rename_i e' hu
    have huu := und_slice ht hu
    split at h
    · exact h.elim
    rename_i ys tk' hy
    obtain ⟨news, ha, _⟩ := Apps.ofSl huu (asSl_val hy h2)
    exact fin ha h.1 h.2
  · rename_i hu
    split at h
    case h_2 => exact h.elim
    rename_i hz
    split at h
    case h_2 => exact h.elim
    rename_i b
    have hz' := Nat.eq_of_beq_eq_true hz
    have ha := Apps.ofStr (w := w) (ρ := ρ) ht hu (S := Stay ρ s.hp) b
    rw [val_str h2, hz'] at fin
    rw [hz'] at h
    exact fin ha h.1 h.2
  · exact h.elim

theorem sound_bi (ht : TabOk P tab) {b : Builtin} {args : Array Operand} {ts : Array TypeId} (ho : o.op = .call ⟨.builtin b, args, ts⟩) (hs : RelS ρ s a w)
    (h : bi (std P n₀) tab b ts.toList (evs s args.toList) s.hp K) (hg : Goes ρ s a w o.dst K next) : o.wp P a w next Q := by
  have hv := evs_val hs args.toList
  have hmap : args.map a.eval = (args.toList.map a.eval).toArray := by apply Array.ext'; simp
  generalize hxs : evs s args.toList = xs at h hv
  generalize hus : args.toList.map a.eval = us at hv hmap
  unfold bi at h
  split at h
  · -- len
    split at h
    case h_2 => exact h.elim
    rename_i x
    split at h
    case h_2 => exact h.elim
    rename_i t l hts
    match us, hv with
    | [v], ⟨hv, _⟩ =>
      have hts' : ts = (t :: l).toArray := by apply Array.ext'; simpa using hts
      have fin : ∀ {n : Int} {d : TypeDesc}, P.underlying t = some d → (Builtin.len_ (t :: l).toArray o.type #[v]).run P w = .ok (.int .i64 n) w → K (.int .i64 n) s.hp → o.wp P a w next Q := by
        intro n d _ hr hk
        exact wp_value (run_bi (f := Builtin.len_ ts o.type #[v]) ho hmap (fun cs => rfl) (by rw [hts']; exact hr)) (hg.here hs hk ⟨1, rfl⟩)
      unfold lenA at h
      split at h
      · rename_i hk
        split at h
        case h_2 => exact h.elim
        obtain ⟨i, d, z, hty⟩ := ht.kind hk (by simp)
        have hd : d = .string := by have := hty.k; rw [hk] at this; cases d <;> simp [tkOf] at this; rfl
        subst hd
        have := val_str hv; subst this
        exact fin hty.und (by simp [Builtin.len_, run_underlying hty.und, goInt, std, stdOps]) h
      · rename_i e hk
        have hu := und_slice ht hk
        split at h
        · obtain ⟨ad, len, cap, rfl, hl, _⟩ := val_sl hv
          exact fin hu (by simp [Builtin.len_, run_underlying hu, goInt, std, stdOps, hl]) h
        · have := val_nils hv; subst this
          exact fin hu (by simp [Builtin.len_, run_underlying hu, goInt]) h
        · obtain ⟨d, hv⟩ := hv
          cases d with
          | zero => exact hv.elim
          | succ d =>
            obtain ⟨_, cap, _, rfl⟩ := hv
            exact fin hu (by simp [Builtin.len_, run_underlying hu, goInt, std, stdOps]) h
        · obtain ⟨_, ad, len, cap, rfl, rfl, _⟩ := val_vs hv
          exact fin hu (by simp [Builtin.len_, run_underlying hu, goInt]) h
        · exact h.elim
      · rename_i k e hk
        obtain ⟨i, d, z, hty⟩ := ht.kind hk (by simp)
        have hd : d = .map k e := by have := hty.k; rw [hk] at this; cases d <;> simp [tkOf] at this; obtain ⟨rfl, rfl⟩ := this; rfl
        subst hd
        split at h
        · obtain ⟨d, hv⟩ := hv
          cases d with
          | zero => exact hv.elim
          | succ d =>
            simp only [Cz] at hv; subst hv
            exact fin hty.und (by simp [Builtin.len_, run_underlying hty.und, goInt]) h
        · rw [nth_eq] at h
          split at h
          case h_2 => exact h.elim
          rename_i id _ es hes
          obtain ⟨ms, c, h1, h2, _⟩ := hs.rel.ents _ _ hes
          obtain ⟨d, hv⟩ := hv
          cases d with
          | zero => exact hv.elim
          | succ d =>
            obtain ⟨_, rfl⟩ := hv
            refine fin hty.und ?_ h
            have hget := run_getMap (P := P) h1
            simp [Builtin.len_, run_underlying hty.und, hget, goInt, std, stdOps, h2.length]
        · exact h.elim
      · exact h.elim
  · -- min
    split at h
    · match us, hv with
      | [v1, v2], ⟨h1, h2, _⟩ =>
        have := val_int h1; subst this
        have := val_int h2; subst this
        exact wp_value (run_bi (f := Builtin.min_ ts o.type [_, _].toArray) ho hmap (fun cs => rfl) (by simp [Builtin.min_, Builtin.min2]; rfl)) (hg.here hs h ⟨1, rfl⟩)
    · match us, hv with
      | [v1, v2, v3], ⟨h1, h2, h3, _⟩ =>
        have := val_int h1; subst this
        have := val_int h2; subst this
        have := val_int h3; subst this
        exact wp_value (run_bi (f := Builtin.min_ ts o.type [_, _, _].toArray) ho hmap (fun cs => rfl) (by simp [Builtin.min_, Builtin.min2]; rfl)) (hg.here hs h ⟨1, rfl⟩)
    · exact h.elim
  · -- max
    split at h
    · match us, hv with
      | [v1, v2], ⟨h1, h2, _⟩ =>
        have := val_int h1; subst this
        have := val_int h2; subst this
        exact wp_value (run_bi (f := Builtin.max_ ts o.type [_, _].toArray) ho hmap (fun cs => rfl) (by simp [Builtin.max_, Builtin.max2]; rfl)) (hg.here hs h ⟨1, rfl⟩)
    · match us, hv with
      | [v1, v2, v3], ⟨h1, h2, h3, _⟩ =>
        have := val_int h1; subst this
        have := val_int h2; subst this
        have := val_int h3; subst this
        exact wp_value (run_bi (f := Builtin.max_ ts o.type [_, _, _].toArray) ho hmap (fun cs => rfl) (by simp [Builtin.max_, Builtin.max2]; rfl)) (hg.here hs h ⟨1, rfl⟩)
    · exact h.elim
  · -- append
    split at h
    case h_2 => exact h.elim
    rename_i x y
    split at h
    case h_2 => exact h.elim
    rename_i t u l hts
    split at h
    case h_2 => exact h.elim
    rename_i e hk
    match us, hv with
    | [v1, v2], ⟨h1, h2, _⟩ =>
      split at h
      · exact sound_append ht ho hs hmap hts h1 h2 hk h hg
      · have h0 := h
        unfold apV at h0
        split at h0
        case h_2 => exact h0.elim
        rename_i hbp
        have hbp' : 0 < (tab e).bytes := by simpa [Nat.blt_eq] using hbp
        obtain ⟨ie, de, ze, hty⟩ := ht.of (t := e) (fun he => by rw [he] at hbp'; simp [Ty.no] at hbp')
        obtain ⟨r, w', ρ', σ', av, hr, hka, hva, hst, hrel⟩ := sound_apV (ty := o.type) ht (und_slice ht hk) hty hs h1 h2 h
        refine wp_value (run_bi (f := Builtin.append_ ts o.type #[v1, v2]) ho hmap (fun cs => rfl) ?_) (hg.go _ _ _ _ _ hka hva hst hrel)
        have : ts = (t :: u :: l).toArray := by apply Array.ext'; simpa using hts
        rw [this]
        have e1 : Builtin.append_ (t :: u :: l).toArray o.type #[v1, v2] = Builtin.append_ #[t, u] o.type #[v1, v2] := by simp [Builtin.append_]
        rw [e1]; exact hr
  · exact h.elim

theorem sound_makeSlice (ht : TabOk P tab) {t : TypeId} {x y : Operand} (ho : o.op = .makeSlice t x y) (hs : RelS ρ s a w) (h : aop (std P n₀) tab (.makeSlice t x y) s K E) (hg : Goes ρ s a w o.dst K next) : o.wp P a w next Q := by
  have hx := ev_val hs x
  have hy := ev_val hs y
  simp only [aop] at h
  split at h
  case h_2 => exact h.elim
  rename_i e hk
  split at h
  case h_2 => exact h.elim
  rename_i hbp
  split at h
  case h_2 => exact h.elim
  rename_i k n ex
  split at h
  case h_2 => exact h.elim
  rename_i k' m ey
  rw [ex] at hx; rw [ey] at hy
  split at h
  case h_2 =>
    split at h
    · exact h.elim
    rename_i zv hz
    split at h
    case h_2 => exact h.elim
    rename_i hsp
    have hsp' : 0 < (tab e).size := by simpa [Nat.blt_eq] using hsp
    obtain ⟨⟨rfl, h0, hb⟩, h⟩ := h
    have hbp' : 0 < (tab e).bytes := by simpa [Nat.blt_eq] using hbp
    obtain ⟨i, d, z, hty, hzv, hone⟩ := zeroV_val (w := w) (S := Stay ρ s.hp) (ρ := ρ) (n := 0) ht hz
    have hu := und_slice ht hk
    rw [lenN_eq, snoc_eq] at h
    replace h : K (.vs s.hp.length (tab e).size 0 n n) (s.hp ++ [.vec (tab e).size (List.replicate n.toNat zv)]) := h
    have hnle : n ≤ n * (tab e).bytes := by
      have : n * 1 ≤ n * ((tab e).bytes : Int) := Int.mul_le_mul_of_nonneg_left (by omega) h0
      omega
    have hrun := run_make (P := P) w t e i z hu hty.info hty.zero k k' n n h0 (Int.le_refl _) (by rw [← hty.bytes, Int.mul_comm]; omega) (by omega)
    have hm : madeCells z.cells (n.toNat * i.size) = (repl n.toNat z.cells.toList).toArray := zeros_repl _ _ _ (by rw [hty.zsize, hty.size])
    rw [hm] at hrun
    have hzl : z.cells.toList.length = (tab e).size := by rw [← hty.zsize]; simp
    obtain ⟨hzc, hz1⟩ := hzv.cells hone
    have hnew := rel_new hs.rel (s := (tab e).size) (xs := List.replicate n.toNat zv) (l := ⟨w.heap.size, 0, n.toNat * (tab e).size, 0⟩) (w' := w.alloc (.cells (repl n.toNat z.cells.toList).toArray e)) rfl (by simp) rfl rfl rfl
      (fun _ _ h => heap_alloc_old h) (by rw [World.size_alloc]; simp)
      (fun _ => ⟨Nat.le_refl _, _, e, (0, 0), heap_alloc_new, by simp [repl_length, hzl], fun o' _ _ => World.frozen?_alloc_new w _ e o'⟩)
      (fun j x hx' => by
        rw [List.getElem?_replicate] at hx'
        split at hx'
        case isFalse => simp at hx'
        rename_i hj
        simp at hx'; subst hx'
        refine ⟨_, hzc, hzl, fun q v hv => ⟨?_, hz1 v (List.mem_of_getElem? hv)⟩⟩
        have hq := lt_of_get hv
        rw [Nat.zero_add]
        refine (cellAt_cells heap_alloc_new).trans ?_
        have hlt : j * (tab e).size + q < n.toNat * z.cells.toList.length := by rw [hzl]; exact el_lt hj (by rw [← hzl]; exact hq)
        rw [List.getElem?_toArray, repl_get _ _ _ hlt, hzl, Nat.mul_comm, Nat.mul_add_mod, Nat.mod_eq_of_lt (by rw [← hzl]; exact hq)]
        exact hv)
    refine wp_value (v := .slice (some ⟨w.heap.size, 0, none⟩) n.toNat n.toNat) ?_ (hg.go _ _ _ _ _ h ⟨1, by simp, _, _, _, rfl, by omega, Nat.le_refl _, fun _ => ⟨_, _, rfl⟩, 0, rfl, by omega, fun _ _ => by simp [Ro.tipAt]⟩ hnew.1 hnew.2)
    simp [execOp, ho, val_int hx, val_int hy, hrun]
  obtain ⟨⟨rfl, h0, hb⟩, h⟩ := h
  have hbp' : 0 < (tab e).bytes := by simpa [Nat.blt_eq] using hbp
  obtain ⟨i, d, z, hty⟩ := ht.of (t := e) (fun he => by rw [he] at hbp'; simp [Ty.no] at hbp')
  have hu := und_slice ht hk
  rw [lenN_eq, snoc_eq, hty.zeros] at h
  have hst := rel_var hs.rel e (lits_repl (w := w) (S := Stay ρ s.hp) (ρ := ρ) (m := s.hp.length) z.cells.toList n.toNat)
  have hnle : n ≤ n * (tab e).bytes := by
    have : n * 1 ≤ n * ((tab e).bytes : Int) := Int.mul_le_mul_of_nonneg_left (by omega) h0
    omega
  have hrun := run_make (P := P) w t e i z hu hty.info hty.zero k k' n n h0 (Int.le_refl _) (by rw [← hty.bytes, Int.mul_comm]; omega) (by omega)
  refine wp_value (v := .slice (some ⟨w.heap.size, 0, none⟩) n.toNat n.toNat) (w' := w.alloc (.cells (repl n.toNat z.cells.toList).toArray e)) ?_ (hg.go _ _ _ _ _ h ⟨1, by simp, n.toNat, Nat.le_refl _, by simp [Ro.add]⟩ hst.1 hst.2)
  have hm : madeCells z.cells (n.toNat * i.size) = (repl n.toNat z.cells.toList).toArray := zeros_repl _ _ _ (by rw [hty.zsize, hty.size])
  rw [hm] at hrun
  simp [execOp, ho, val_int hx, val_int hy, hrun]

end
end Go.Pt
