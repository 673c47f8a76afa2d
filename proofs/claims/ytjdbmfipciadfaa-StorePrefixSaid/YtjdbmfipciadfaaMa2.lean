/- Each operation that the abstract machine does is one that the model does: rows: append, clear, make. -/import Derived.Test.YtjdbmfipciadfaaMa1
import Derived.Laws.MakeOwn
import Derived.Lib.AppendZeros
import Derived.Laws.Slices
import Derived.Laws.Strings2
import Derived.MapKept
import Derived.RangeFuncRecord
import Derived.Orders
namespace Go.Pt
open Go
section
variable {P : Program} {n₀ : Nat} {tab : Nat → Ty} {w : World} {ρ : Ro} {s : St} {a : Act} {o : Oper} {K E : AV → List Ent → Prop} {next : Act → World → Prop} {Q : Exit → Act → World → Prop}
theorem flat_row {R : Nat → Value → Prop} {S : Nat → Nat → Prop} {size k0 : Nat} : ∀ {xs : List AV}, (∀ (i : Nat) x, xs[i]? = some x → ∃ us, All2 (Val w S ρ 0) x.cells us ∧ us.length = size ∧ ∀ (j : Nat) u, us[j]? = some u → R (k0 + i * size + j) u) →
    ∃ all : List Value, all.length = xs.length * size ∧ (∀ (j : Nat) u, all[j]? = some u → R (k0 + j) u) ∧ ∀ (i : Nat) x, xs[i]? = some x → ∃ us, All2 (Val w S ρ 0) x.cells us ∧ us.length = size ∧ ∀ (j : Nat) u, us[j]? = some u → all[i * size + j]? = some u := by
  intro xs
  induction xs generalizing k0 with
  | nil => intro _; exact ⟨[], by simp, fun j u hu => by simp at hu, fun i x h => by simp at h⟩
  | cons x xs ih =>
    intro h
    obtain ⟨all, h1, h2, h3⟩ := ih (k0 := k0 + size) (fun i y hy => by
      have := h (i + 1) y (by simpa using hy)
      rwa [Nat.succ_mul, Nat.add_comm (i * size) size, ← Nat.add_assoc] at this)
    obtain ⟨us, g1, g2, g3⟩ := h 0 x rfl
    refine ⟨us ++ all, by simp [h1, g2, Nat.succ_mul, Nat.add_comm], fun j u hu => ?_, fun i y hy => ?_⟩
    · by_cases hj : j < us.length
      · rw [List.getElem?_append_left hj] at hu
        have := g3 j u hu
        simpa using this
      · rw [List.getElem?_append_right (Nat.le_of_not_lt hj)] at hu
        have := h2 _ u hu
        rwa [g2, show k0 + size + (j - size) = k0 + j by omega] at this
    · cases i with
      | zero =>
        simp at hy; subst hy
        exact ⟨us, g1, g2, fun j u hu => by rw [Nat.zero_mul, Nat.zero_add, List.getElem?_append_left (lt_of_get hu)]; exact hu⟩
      | succ i =>
        obtain ⟨vs, k1, k2, k3⟩ := h3 i y (by simpa using hy)
        refine ⟨vs, k1, k2, fun j u hu => ?_⟩
        rw [Nat.succ_mul, Nat.add_comm (i * size) size, Nat.add_assoc, List.getElem?_append_right (by omega), g2, show size + (i * size + j) - size = i * size + j by omega]
        exact k3 j u hu
structure Apq (P : Program) (w : World) (S : Nat → Nat → Prop) (ρ : Ro) (size : Nat) (tx : TypeId) (x : Value) (ys : List AV) (news : List Value) : Prop where
  src : ∀ w' : World, w'.heap = w.heap → Src P size tx x ys.length news w'
  cells : ∀ (i : Nat) y, ys[i]? = some y → ∃ vs, All2 (Val w S ρ 0) y.cells vs ∧ vs.length = size ∧ ∀ (j : Nat) u, vs[j]? = some u → news[i * size + j]? = some u
theorem cellAt_heap {w w' : World} (h : w'.heap = w.heap) (b o : Nat) : cellAt w' b o = cellAt w b o := by
  simp only [cellAt, World.cell?, h]
theorem Apq.of {S : Nat → Nat → Prop} {size : Nat} {tx : TypeId} {x : Value} {ys : List AV} {news : List Value} (h : Apps P w S ρ size tx x ys news) : Apq P w S ρ size tx x ys news :=
  ⟨fun w' hw => h.src w' fun b o u _ hu => by rw [cellAt_heap hw]; exact hu, h.cells⟩
theorem Apq.ofVs {u e' : TypeId} (hu : P.underlying u = some (.slice e')) {S : Nat → Nat → Prop} {n m z id : Nat} {xs : List AV} {lo k N : Int} {v : Value} (he : EntOk w S ρ m id (.vec z xs)) (hv : Val w S ρ n (.vs id z lo k N) v)
    (h0 : 0 ≤ lo) (h1 : 0 ≤ k) (h2 : lo + k ≤ xs.length) : ∃ news, Apq P w S ρ z u v ((xs.take (lo + k).toNat).drop lo.toNat) news := by
  obtain ⟨hp, hl, _, hel⟩ := he
  obtain ⟨_, ad, len, cap, rfl, rfl, hcap, hadr, hloc⟩ := val_vs hv
  obtain ⟨l, rfl, hN, ha⟩ := hloc
  replace ha := ha hp
  rw [Int.toNat_natCast]
  have hlen : ((xs.take ((l : Int) + len).toNat).drop l).length = len := by simp; omega
  obtain ⟨all, g1, g2, g3⟩ := flat_row (xs := (xs.take ((l : Int) + len).toNat).drop l) (size := z) (k0 := (ρ.t id).start + l * z) (w := w) (ρ := ρ) (S := S) (R := fun o u => cellAt w (ρ.t id).blk o = some u ∧ u.oneCell' = true) (fun i x hi => by
    rw [List.getElem?_drop, List.getElem?_take] at hi
    split at hi
    · obtain ⟨vs, a1, a2, a3⟩ := hel _ x hi
      refine ⟨vs, a1, a2, fun j u hj => ?_⟩
      rw [Nat.add_assoc ((ρ.t id).start), ← Nat.add_mul]; exact a3 j u hj
    · simp at hi)
  refine ⟨all, ⟨fun w' hw => ?_, g3⟩⟩
  rw [hlen] at g1 ⊢
  by_cases hc : cap = 0
  · have : len = 0 := by omega
    subst this
    have : all = [] := List.eq_nil_of_length_eq_zero (by rw [g1]; simp)
    subst this
    cases ad with
    | none => exact Src.ofNil w' hu cap
    | some ad => exact Src.ofSlice w' hu ad 0 cap [] (by simp) (by simp) (by simp)
  · obtain ⟨rfl, _⟩ := ha (by omega)
    refine Src.ofSlice w' hu _ _ cap all g1 (fun j x hx => ?_) (fun x hx => ?_)
    · have := (g2 j x hx).1
      rw [← cellAt_heap hw] at this
      simp only [cellAt] at this
      unfold Addr.add
      split
      · rename_i e; subst e; simpa using this
      · exact this
    · obtain ⟨j, hj⟩ := List.mem_iff_getElem?.1 hx
      exact (g2 j x hj).2
theorem asSl_val {size : Nat} {x : AV} {xs : List AV} {tk : Tok} {v : Value} (h : asSl size x = some (xs, tk)) (hv : Val w (Stay ρ s.hp) ρ s.hp.length x v) : Val w (Stay ρ s.hp) ρ s.hp.length (.sl size xs tk) v := by
  unfold asSl at h
  split at h
  · split at h
    · rename_i hz
      simp only [Option.some.injEq, Prod.mk.injEq] at h
      obtain ⟨rfl, rfl⟩ := h
      rw [beN_t hz]; exact hv
    · simp at h
  · simp only [Option.some.injEq, Prod.mk.injEq] at h
    obtain ⟨rfl, rfl⟩ := h
    rw [val_nils hv]
    exact val_sl_mk rfl (Nat.le_refl _) rfl (fun h => absurd rfl h)
  · simp at h
theorem srcV_sound (ht : TabOk P tab) {u : TypeId} {e : Ty} {y : AV} {v : Value} {ys : List AV} {p : Prop} (h : srcV (std P n₀) (tab u) e y s.hp = some (ys, p)) (hp : p) (hs : RelS ρ s a w) (hv : Val w (Stay ρ s.hp) ρ s.hp.length y v) :
    ∃ news, Apq P w (Stay ρ s.hp) ρ e.size u v ys news := by
  unfold srcV at h
  split at h
  · rename_i hu
    have huu := und_slice ht hu
    split at h
    · split at h
      case h_2 => simp at h
      rename_i hz
      split at h
      case h_2 => simp at h
      rename_i z' xs hid
      split at h
      case h_2 => simp at h
      rename_i hz'
      have e1 := beN_t hz
      have e2 := beN_t hz'
      subst e1 e2
      simp only [Option.some.injEq, Prod.mk.injEq] at h
      obtain ⟨rfl, rfl⟩ := h
      rw [nth_eq] at hid
      obtain ⟨p1, p2, p3⟩ := hp
      exact Apq.ofVs huu (hs.rel.ents _ _ hid) hv p1 p2 p3
    · split at h
      · rename_i ys' tk hy
        simp only [Option.some.injEq, Prod.mk.injEq] at h
        obtain ⟨rfl, rfl⟩ := h
        have hv' : Val w (Stay ρ s.hp) ρ s.hp.length (.sl e.size ys' tk) v := asSl_val hy hv
        obtain ⟨news, ha, _⟩ := Apps.ofSl huu hv'
        exact ⟨news, Apq.of ha⟩
      · simp at h
  · rename_i hu
    split at h
    case h_2 => simp at h
    rename_i hz
    split at h
    case h_2 => simp at h
    rename_i b
    simp only [Option.some.injEq, Prod.mk.injEq] at h
    obtain ⟨rfl, rfl⟩ := h
    have ha := Apps.ofStr (w := w) (ρ := ρ) ht hu (S := Stay ρ s.hp) b
    rw [beN_t hz, val_str hv]
    exact ⟨_, Apq.of ha⟩
  · simp at h
theorem row_grown (_hs : RelS ρ s a w) {σ : List Ent} {ρ1 : Ro} (hst : Stp ρ s.hp w ρ1 σ w) (hr : Rel ρ1 σ w) {t u e : TypeId} {i : TypeInfo} {T : Ty} {d : TypeDesc} {z : Value} (hut : P.underlying t = some (.slice e)) (hty : TyOk P e T i d z)
    {xs ys : List AV} {ad : Option Addr} {len cap : Nat} {x : Value} {olds news : List Value} {ty : TypeId} (hx : Apq P w (Stay ρ s.hp) ρ T.size t (.slice ad len cap) xs olds) (hy : Apq P w (Stay ρ s.hp) ρ T.size u x ys news) (hl : len = xs.length)
    (hb : (xs.length + ys.length) * T.bytes ≤ 2 ^ 47) (hpos : 0 < T.bytes) (hg : cap < len + ys.length) :
    ∃ r w' ρ', (Builtin.append_ #[t, u] ty #[.slice ad len cap, x]).run P w = .ok r w' ∧ Val w' (Stay ρ' (σ ++ [Ent.vec T.size (xs ++ ys)])) ρ' (σ ++ [Ent.vec T.size (xs ++ ys)]).length (.vs σ.length T.size 0 ((xs ++ ys).length : Nat) ((xs ++ ys).length : Nat)) r ∧
      Stp ρ s.hp w ρ' (σ ++ [Ent.vec T.size (xs ++ ys)]) w' ∧ Rel ρ' (σ ++ [Ent.vec T.size (xs ++ ys)]) w' := by
  have hsrc := hy.src w rfl
  have hbi : T.bytes = i.bytes := hty.bytes
  have hsi : T.size = i.size := hty.size
  have hlen63 : xs.length + ys.length ≤ 2 ^ 47 := Nat.le_trans (Nat.le_mul_of_pos_right _ hpos) hb
  have hol : olds.length = xs.length * T.size := (hx.src w rfl).newsLen
  have hnl : news.length = ys.length * T.size := hsrc.newsLen
  have h1 := (hx.src w.drew rfl).cells
  rw [← hl] at h1
  have hrun := run_append_grow_src w t u ty e i z hut hty.info hty.zero ad len cap olds (by rw [← hsi]; exact h1) x ys.length news (by rw [← hsi]; exact hsrc) hg (by omega)
    (growslice_fits hg (by rw [← hbi, hl]; exact hb))
  obtain ⟨g, hgd⟩ : ∃ g, g = grownCap w (len + ys.length) cap e := ⟨_, rfl⟩
  have hge : len + ys.length ≤ g := hgd ▸ grownCap_ge w (len + ys.length) cap e
  rw [← hgd] at hrun
  obtain ⟨c, hc⟩ : ∃ c, c = (olds ++ news).toArray ++ Builtin.zeroCells z.cells (g - (len + ys.length)) := ⟨_, rfl⟩
  rw [← hc] at hrun
  have hcs : c.size = g * T.size := by
    rw [hc]; simp [Builtin.zeroCells, hol, hnl, hty.zsize, ← hl]
    rw [← Nat.add_mul, ← Nat.add_mul]; congr 1; omega
  have hcc : ∀ (j : Nat) v, (olds ++ news)[j]? = some v → c[j]? = some v := by
    intro j v hj
    rw [hc, Array.getElem?_append_left (by simpa using lt_of_get hj)]
    simpa using hj
  have hcap : (xs ++ ys).length ≤ g := by simp; omega
  have hnew := rel_new hr (s := T.size) (xs := xs ++ ys) (l := ⟨w.heap.size, 0, g * T.size, 0⟩) (w' := w.drew.alloc (.cells c e)) rfl (by simpa using Nat.mul_le_mul_right T.size hcap) rfl rfl rfl
    (fun _ _ h => heap_alloc_old (w := w.drew) h) (by rw [World.size_alloc]; simp)
    (fun _ => ⟨Nat.le_refl _, c, e, (0, 0), heap_alloc_new (w := w.drew), by simp [hcs], fun o' _ _ => World.frozen?_alloc_new w.drew c e o'⟩)
    (fun k x' hx' => by
      have cell : ∀ (j : Nat) v, (olds ++ news)[j]? = some v → cellAt (w.drew.alloc (.cells c e)) w.heap.size j = some v := by
        intro j v hj
        exact (cellAt_cells (heap_alloc_new (w := w.drew))).trans (hcc j v hj)
      rcases Nat.lt_or_ge k xs.length with hlt | hge'
      · rw [List.getElem?_append_left hlt] at hx'
        obtain ⟨vs, a1, a2, a3⟩ := hx.cells k x' hx'
        refine ⟨vs, a1.imp fun _ _ h => h.keep hst.keeps.zero, a2, fun j v hj => ⟨?_, ?_⟩⟩
        · have := a3 j v hj
          rw [Nat.zero_add]
          exact cell _ _ (by rw [List.getElem?_append_left (lt_of_get this)]; exact this)
        · exact (hx.src w rfl).one _ (List.mem_of_getElem? (a3 j v hj))
      · rw [List.getElem?_append_right hge'] at hx'
        obtain ⟨vs, a1, a2, a3⟩ := hy.cells _ x' hx'
        refine ⟨vs, a1.imp fun _ _ h => h.keep hst.keeps.zero, a2, fun j v hj => ⟨?_, ?_⟩⟩
        · have := a3 j v hj
          rw [Nat.zero_add]
          refine cell _ _ ?_
          have e1 : k * T.size = xs.length * T.size + (k - xs.length) * T.size := by rw [← Nat.add_mul]; congr 1; omega
          rw [List.getElem?_append_right (by rw [hol]; omega), hol, e1, show xs.length * T.size + (k - xs.length) * T.size + j - xs.length * T.size = (k - xs.length) * T.size + j by omega]
          exact this
        · exact hsrc.one _ (List.mem_of_getElem? (a3 j v hj)))
  refine ⟨_, _, _, hrun, ?_, hst.trans' hnew.1, hnew.2⟩
  refine ⟨1, by simp, _, _, _, rfl, by simp [hl], hge, fun _ => ⟨_, _, rfl⟩, 0, rfl, ?_, fun _ _ => ?_⟩
  · simp; omega
  · simp [Ro.tipAt]
theorem sound_apZ {t u e : TypeId} {kk : IntKind} {z : Value} {i : TypeInfo} {d : TypeDesc} (ht : TabOk P tab) (hu : (tab u).k = .int kk) (hut : P.underlying t = some (.slice e)) (_hty : TyOk P e (tab e) i d z) (hs : RelS ρ s a w)
    {x y : AV} {v1 v2 : Value} {ty : TypeId} (h1 : Val w (Stay ρ s.hp) ρ s.hp.length x v1) (h2 : Val w (Stay ρ s.hp) ρ s.hp.length y v2) (h : apZ (std P n₀) (tab e) x y s.hp K) :
    ∃ r w' ρ' σ' av, (Builtin.append_ #[t, u] ty #[v1, v2]).run P w = .ok r w' ∧ K av σ' ∧ Val w' (Stay ρ' σ') ρ' σ'.length av r ∧ Stp ρ s.hp w ρ' σ' w' ∧ Rel ρ' σ' w' := by
  unfold apZ at h
  split at h
  case h_2 => exact h.elim
  rename_i hbp
  have hbp' : 0 < (tab e).bytes := by simpa [ltN_eq] using hbp
  split at h
  case h_2 => exact h.elim
  rename_i hsp
  have hsp' : 0 < (tab e).size := by simpa [ltN_eq] using hsp
  split at h
  · exact h.elim
  rename_i zv hz
  split at h
  case h_2 => exact h.elim
  split at h
  case h_2 => exact h.elim
  rename_i k n
  obtain ⟨⟨_, h0, hb⟩, h⟩ := h
  replace hb : n * ((tab e).bytes : Int) ≤ 2 ^ 47 := hb
  have hv1 := val_nils h1
  have hv2 := val_int h2
  subst hv1 hv2
  obtain ⟨N, rfl⟩ : ∃ N : Nat, n = N := ⟨n.toNat, by omega⟩
  obtain ⟨iu, du, zu, htu⟩ := ht.kind hu (by simp)
  have hdu : ∃ k', du = .int k' := by have := htu.k; rw [hu] at this; cases du <;> simp [tkOf] at this; exact ⟨_, rfl⟩
  obtain ⟨ku, rfl⟩ := hdu
  obtain ⟨i, d, z, hty, hzv, hone⟩ := zeroT_val (w := w) (S := Stay ρ s.hp) (ρ := ρ) (n := 0) ht hz
  have hbi : (tab e).bytes = i.bytes := hty.bytes
  have hsi : (tab e).size = i.size := hty.size
  rw [lenN_eq, snoc_eq] at h
  replace h : K (.vs s.hp.length (tab e).size 0 N N) (s.hp ++ [.vec (tab e).size (List.replicate N zv)]) := h
  have hb' : N * (tab e).bytes ≤ 2 ^ 47 := by exact_mod_cast hb
  have hle : N ≤ 2 ^ 47 := Nat.le_trans (Nat.le_mul_of_pos_right _ hbp') hb'
  obtain ⟨hzc, hz1⟩ := hzv.cells hone
  have hzl : z.cells.toList.length = (tab e).size := by rw [← hty.zsize]; simp
  by_cases hN : N = 0
  · subst hN
    have hrun : (Builtin.append_ #[t, u] ty #[.slice none 0 0, .int k (0 : Nat)]).run P w = .ok (.slice none 0 0) w := by
      have hw : IntKind.i64.wrap (0 : Int) = 0 := by decide
      simp [Builtin.append_, run_underlying hut, run_underlying htu.und, sizeOf, typeInfo, hty.info, asInt, asIntOf, hw]
    have hnew := rel_new hs.rel (s := (tab e).size) (xs := List.replicate 0 zv) (l := ⟨0, 0, 0, 0⟩) (w' := w) rfl (by simp) rfl rfl rfl
      (fun _ _ h => h) (Nat.le_refl _) (fun hlt => by simp at hlt) (fun j x hx' => by simp at hx')
    refine ⟨_, w, _, _, _, hrun, h, ?_, hnew.1, hnew.2⟩
    exact ⟨1, by simp, none, 0, 0, rfl, rfl, Nat.le_refl _, fun h => absurd h (Nat.lt_irrefl 0), 0, rfl, by simp, fun _ hc => absurd hc (Nat.lt_irrefl 0)⟩
  · have hrun := Lib.run_append_nil_zeros (P := P) w t u ty e i z k ku hut htu.und hty.info hty.zero N (by omega) (by omega) (by omega) (by rw [← hbi]; omega)
    obtain ⟨g, hgd⟩ : ∃ g, g = grownCap w N 0 e := ⟨_, rfl⟩
    have hge : N ≤ g := hgd ▸ (by simpa using grownCap_ge w N 0 e)
    rw [← hgd] at hrun
    obtain ⟨c, hc⟩ : ∃ c, c = Builtin.zeroCells z.cells N ++ Builtin.zeroCells z.cells (g - N) := ⟨_, rfl⟩
    rw [← hc] at hrun
    have hcs : c.size = g * (tab e).size := by
      rw [hc]; simp [Builtin.zeroCells, hty.zsize]
      rw [← Nat.add_mul]; congr 1; omega
    have hcc : ∀ k q : Nat, k < N → q < (tab e).size → ∀ v, z.cells.toList[q]? = some v → c[k * (tab e).size + q]? = some v := by
      intro k q hk hq v hv
      have hlt : k * (tab e).size + q < N * (tab e).size := el_lt hk hq
      have hzz : z.cells.size = (tab e).size := hty.zsize
      rw [hc, Array.getElem?_append_left (by simpa [Builtin.zeroCells, hzz] using hlt)]
      simp only [Builtin.zeroCells, hzz, Array.getElem?_map, Array.getElem?_range, hlt, if_true, Option.map_some, Option.some.injEq]
      rw [Nat.mul_comm, Nat.mul_add_mod, Nat.mod_eq_of_lt hq]
      rw [Array.getElem?_toList] at hv
      rw [getElem!_pos z.cells q (by omega)]
      exact (Array.getElem?_eq_some_iff.1 hv).2
    have hnew := rel_new hs.rel (s := (tab e).size) (xs := List.replicate N zv) (l := ⟨w.heap.size, 0, g * (tab e).size, 0⟩) (w' := w.drew.alloc (.cells c e)) rfl (by simpa using Nat.mul_le_mul_right (tab e).size hge) rfl rfl rfl
      (fun _ _ h => heap_alloc_old (w := w.drew) h) (by rw [World.size_alloc]; simp)
      (fun _ => ⟨Nat.le_refl _, c, e, (0, 0), heap_alloc_new (w := w.drew), by simp [hcs], fun o' _ _ => World.frozen?_alloc_new w.drew c e o'⟩)
      (fun k x' hx' => by
        rw [List.getElem?_replicate] at hx'
        split at hx'
        case isFalse => simp at hx'
        rename_i hj
        simp at hx'; subst hx'
        refine ⟨_, hzc, hzl, fun q v hv => ⟨?_, hz1 v (List.mem_of_getElem? hv)⟩⟩
        have hq := lt_of_get hv
        rw [Nat.zero_add]
        exact (cellAt_cells (heap_alloc_new (w := w.drew))).trans (hcc k q hj (by rw [← hzl]; exact hq) v hv))
    refine ⟨_, _, _, _, _, hrun, h, ?_, hnew.1, hnew.2⟩
    refine ⟨1, by simp, _, _, _, rfl, rfl, hge, fun _ => ⟨_, _, rfl⟩, 0, rfl, ?_, fun _ _ => ?_⟩
    · simp; omega
    · simp [Ro.tipAt]
theorem sound_apV {t u e : TypeId} {md : Nat} {z : Value} {i : TypeInfo} {d : TypeDesc} (ht : TabOk P tab) (hut : P.underlying t = some (.slice e)) (hty : TyOk P e (tab e) i d z) (hs : RelS ρ s a w)
    {x y : AV} {v1 v2 : Value} {ty : TypeId} (h1 : Val w (Stay ρ s.hp) ρ s.hp.length x v1) (h2 : Val w (Stay ρ s.hp) ρ s.hp.length y v2) (h : apV (std P n₀) md (tab u) (tab e) x y s.hp K) :
    ∃ r w' ρ' σ' av, (Builtin.append_ #[t, u] ty #[v1, v2]).run P w = .ok r w' ∧ K av σ' ∧ Val w' (Stay ρ' σ') ρ' σ'.length av r ∧ Stp ρ s.hp w ρ' σ' w' ∧ Rel ρ' σ' w' := by
  unfold apV at h
  split at h
  · rename_i kk hu
    exact sound_apZ ht hu hut hty hs h1 h2 h
  split at h
  case h_2 => exact h.elim
  rename_i hbp
  have hbp' : 0 < (tab e).bytes := by simpa [ltN_eq] using hbp
  split at h
  case h_2 => exact h.elim
  rename_i hsp
  have hsp' : 0 < (tab e).size := by simpa [ltN_eq] using hsp
  split at h
  · exact h.elim
  rename_i ys p hy
  obtain ⟨hp, h⟩ := h
  obtain ⟨news, hya⟩ := srcV_sound ht hy hp hs h2
  have hsrc := hya.src w rfl
  have hnl : news.length = ys.length * (tab e).size := hsrc.newsLen
  have hsi : (tab e).size = i.size := hty.size
  have nothing : ∀ {ad : Option Addr} {len cap : Nat}, len ≤ cap → ys = [] → (Builtin.append_ #[t, u] ty #[.slice ad len cap, v2]).run P w = .ok (.slice ad len cap) w := by
    intro ad len cap hle e0
    subst e0
    have : news = [] := List.eq_nil_of_length_eq_zero (by rw [hnl]; simp)
    subst this
    exact run_append_nothing w t u ty _ i hut hty.info ad len cap hle v2 (by rw [← hsi]; exact hsrc)
  split at h
  · rename_i id zz lo n N
    split at h
    case h_2 => exact h.elim
    rename_i hz
    have hz' := beN_t hz
    subst hz'
    split at h
    case h_2 => exact h.elim
    rename_i z' xs hid
    split at h
    case h_2 => exact h.elim
    rename_i hzz
    have hzz' := beN_t hzz
    subst hzz'
    rw [nth_eq] at hid
    have hent := hs.rel.ents id _ hid
    have hent' := hent
    obtain ⟨hpos, hfit, hblk, hel⟩ := hent'
    have hv1 := h1
    obtain ⟨hidl, ad, len, cap, rfl, rfl, hcap, hadr, hloc⟩ := val_vs h1
    obtain ⟨l, rfl, hN, ha⟩ := hloc
    replace ha := ha hpos
    have room : ∀ {q : Nat}, q = l + len → len + ys.length ≤ cap → 0 < cap → (Builtin.append_ #[t, u] ty #[.slice ad len cap, v2]).run P w = .ok (.slice ad (len + ys.length) cap) (w.setCells (ρ.t id).blk ((ρ.t id).start + q * (tab e).size) news) ∧ (ρ.t id).start + (q + ys.length) * (tab e).size ≤ (ρ.t id).stop := by
      intro q hq hr hc0
      obtain ⟨rfl, hend⟩ := ha hc0
      have hle : (ρ.t id).start + (q + ys.length) * (tab e).size ≤ (ρ.t id).stop := by
        have := Nat.mul_le_mul_right (tab e).size (show q + ys.length ≤ l + cap by omega); omega
      have hoff : (ρ.t id).start + l * (tab e).size + len * i.size = (ρ.t id).start + q * (tab e).size := by rw [← hsi, hq, Nat.add_mul]; omega
      have hcc := vec_cells hent (q := (ρ.t id).start + q * (tab e).size) (k := news.length) (by omega) (by rw [hnl]; rw [Nat.add_mul] at hle; omega)
      have hrun := run_append_room_src w t u ty _ i hut hty.info (ρ.t id).blk ((ρ.t id).start + l * (tab e).size) len cap v2 ys.length news (by rw [← hsi]; exact hsrc) hr
        (fun j hj => by rw [hoff]; exact (hcc j hj).1) (fun j hj => by rw [hoff]; exact (hcc j hj).2)
      rw [hoff] at hrun
      exact ⟨hrun, hle⟩
    split at h
    ·
      obtain ⟨e1, _, e2, hroom, h⟩ := h
      replace e1 : (l : Int) = 0 := e1
      replace e2 : (len : Int) ≤ (xs.length : Nat) := e2
      have e3 : (xs.take ((len : Int)).toNat).drop (Int.toNat 0) = xs.take len := by simp
      obtain ⟨xt, hxt⟩ : ∃ xt, xt = xs.take len := ⟨_, rfl⟩
      have hxl : xt.length = len := by rw [hxt]; simp; omega
      replace hroom : (((xs.take ((len : Int)).toNat).drop (Int.toNat 0)).length + ys.length) * (tab e).bytes ≤ 2 ^ 47 := hroom
      rw [lenN_eq, snoc_eq] at h
      replace h : K (.vs s.hp.length (tab e).size 0 (((xs.take ((len : Int)).toNat).drop (Int.toNat 0) ++ ys).length : Nat) (((xs.take ((len : Int)).toNat).drop (Int.toNat 0) ++ ys).length : Nat)) (setN s.hp id .dead ++ [.vec (tab e).size ((xs.take ((len : Int)).toNat).drop (Int.toNat 0) ++ ys)]) := h
      rw [e3, ← hxt] at hroom h
      have e1 : l = 0 := by omega
      subst e1
      have hdl : (setN s.hp id .dead).length = s.hp.length := by rw [setN_eq]; simp
      by_cases hr : len + ys.length ≤ cap
      ·
        have hfin : ∃ w1, (Builtin.append_ #[t, u] ty #[.slice ad len cap, v2]).run P w = .ok (.slice ad (len + ys.length) cap) w1 ∧ Stp ρ s.hp w ρ (setN s.hp id (.vec (tab e).size (xt ++ ys))) w1 ∧ Rel ρ (setN s.hp id (.vec (tab e).size (xt ++ ys))) w1 := by
          by_cases hc0 : 0 < cap
          · obtain ⟨hrun, hle⟩ := room (q := len) (by omega) hr hc0
            have hst := rel_lay hs.rel (ys := ys) (p := len) (news := news) hid (by omega) hle hnl hsrc.one hya.cells
            rw [← hxt] at hst
            have hid1 : (setN s.hp id (.vec (tab e).size (xt ++ ys ++ xs.drop (len + ys.length))))[id]? = some (.vec (tab e).size (xt ++ ys ++ xs.drop (len + ys.length))) := by rw [setN_eq]; simp [hidl]
            obtain ⟨_, hfit1, _, hel1⟩ := hst.2.ents id _ hid1
            have hst2 := rel_row hst.2 (xs' := xt ++ ys) (q := (ρ.t id).start) (news := []) hid1 (Nat.le_refl _) (by have := Nat.mul_le_mul_right (tab e).size (show (0 : Nat) ≤ (xt ++ ys ++ xs.drop (len + ys.length)).length by omega); simp only [List.length_nil]; omega)
              (by have := Nat.mul_le_mul_right (tab e).size (show (xt ++ ys).length ≤ (xt ++ ys ++ xs.drop (len + ys.length)).length by simp); omega)
              (fun k x hx => by
                simp only [World.setCells]
                exact hel1 k x (by rw [List.getElem?_append_left (lt_of_get hx)]; exact hx))
            have hss : setN (setN s.hp id (.vec (tab e).size (xt ++ ys ++ xs.drop (len + ys.length)))) id (.vec (tab e).size (xt ++ ys)) = setN s.hp id (.vec (tab e).size (xt ++ ys)) := by rw [setN_eq, setN_eq, setN_eq, List.set_set]
            simp only [World.setCells] at hst2
            rw [hss] at hst2
            exact ⟨_, hrun, hst.1.trans' hst2.1, hst2.2⟩
          · have hy0 : ys = [] := List.eq_nil_of_length_eq_zero (by omega)
            have hx0 : xt = [] := List.eq_nil_of_length_eq_zero (by omega)
            have hrun := nothing (ad := ad) hcap hy0
            have hst := rel_row hs.rel (xs' := []) (q := (ρ.t id).start) (news := []) hid (Nat.le_refl _) (by simp; omega) (by simp; omega) (fun k x hx => by simp at hx)
            subst hy0
            rw [hx0]
            simp only [World.setCells] at hst
            simp only [List.append_nil, List.length_nil, Nat.add_zero]
            exact ⟨w, hrun, hst⟩
        obtain ⟨w1, hrun, hst1, hr1⟩ := hfin
        have hid1 : (setN s.hp id (.vec (tab e).size (xt ++ ys)))[id]? = some (.vec (tab e).size (xt ++ ys)) := by rw [setN_eq]; simp [hidl]
        have hmv := rel_mv hr1 hid1
        have hsl : (setN s.hp id (.vec (tab e).size (xt ++ ys))).length = s.hp.length := by rw [setN_eq]; simp
        have hss : setN (setN s.hp id (.vec (tab e).size (xt ++ ys))) id .dead = setN s.hp id .dead := by rw [setN_eq, setN_eq, setN_eq, List.set_set]
        rw [hsl, hss] at hmv
        refine ⟨_, w1, _, _, _, hrun, h, ?_, hst1.trans' hmv.1, hmv.2⟩
        refine ⟨1, by simp [hdl], ad, _, _, rfl, by simp [hxl], hr, hadr, 0, rfl, ?_, fun _ hc => ?_⟩
        · simp [hxl]; omega
        · obtain ⟨g1, g2⟩ := ha hc
          simp only [Ro.tipAt, if_true]
          exact ⟨g1, g2⟩
      ·
        have hxa : ∃ olds, Apq P w (Stay ρ s.hp) ρ (tab e).size t (.slice ad len cap) xt olds := by
          obtain ⟨olds, ho⟩ := Apq.ofVs hut hent hv1 (Int.le_refl 0) (by omega) (by omega)
          refine ⟨olds, ?_⟩
          have e' : (xs.take ((0 : Nat) + (len : Int)).toNat).drop (Int.toNat (0 : Nat)) = xt := by simp [hxt]
          rwa [e'] at ho
        obtain ⟨olds, hxa⟩ := hxa
        have hk := rel_kill hs.rel id
        obtain ⟨r, w', ρ', q1, q2, q3, q4⟩ := row_grown (ty := ty) hs hk.1 hk.2 hut hty hxa hya hxl.symm hroom hbp' (by omega)
        rw [hdl] at q2
        exact ⟨r, w', ρ', _, _, q1, h, q2, q3, q4⟩
    ·
      obtain ⟨p1, p2, p3, p4, hroom, h⟩ := h
      replace p3 : (l : Int) + len + (ys.length : Nat) ≤ N := p3
      replace p4 : (l : Int) + len + (ys.length : Nat) ≤ (xs.length : Nat) := p4
      replace h : K (.vs id (tab e).size l ((len : Int) + (ys.length : Nat)) N) (setN s.hp id (.vec (tab e).size (xs.take ((l : Int) + len).toNat ++ ys ++ xs.drop (((l : Int) + len).toNat + ys.length)))) := h
      have hr : len + ys.length ≤ cap := by omega
      have hq : ((l : Int) + len).toNat = l + len := by omega
      rw [hq] at h
      have hfin : ∃ w1, (Builtin.append_ #[t, u] ty #[.slice ad len cap, v2]).run P w = .ok (.slice ad (len + ys.length) cap) w1 ∧ Stp ρ s.hp w ρ (setN s.hp id (.vec (tab e).size (xs.take (l + len) ++ ys ++ xs.drop (l + len + ys.length)))) w1 ∧ Rel ρ (setN s.hp id (.vec (tab e).size (xs.take (l + len) ++ ys ++ xs.drop (l + len + ys.length)))) w1 := by
        by_cases hc0 : 0 < cap
        · obtain ⟨hrun, hle⟩ := room (q := l + len) rfl hr hc0
          exact ⟨_, hrun, rel_lay hs.rel (ys := ys) (p := l + len) (news := news) hid (by omega) hle hnl hsrc.one hya.cells⟩
        · have hy0 : ys = [] := List.eq_nil_of_length_eq_zero (by omega)
          have hrun := nothing (ad := ad) hcap hy0
          have hst := rel_row hs.rel (xs' := xs) (q := (ρ.t id).start) (news := []) hid (Nat.le_refl _) (by simp; omega) hfit hel
          subst hy0
          simp only [World.setCells] at hst
          simp only [List.append_nil, List.length_nil, Nat.add_zero, List.take_append_drop]
          exact ⟨w, hrun, hst⟩
      obtain ⟨w1, hrun, hst1, hr1⟩ := hfin
      refine ⟨_, w1, _, _, _, hrun, h, ?_, hst1, hr1⟩
      exact ⟨1, by rw [setN_eq]; simpa using hidl, ad, _, _, rfl, by simp, hr, hadr, l, rfl, hN, fun _ hc => ha hc⟩
  · rename_i hnv
    split at h
    case h_2 => exact h.elim
    rename_i xs hx
    obtain ⟨e1, hroom, h⟩ := h
    replace e1 : xs = [] := e1
    subst e1
    replace hroom : (0 + ys.length) * (tab e).bytes ≤ 2 ^ 47 := hroom
    rw [lenN_eq, snoc_eq] at h
    replace h : K (.vs s.hp.length (tab e).size 0 (ys.length : Nat) (ys.length : Nat)) (s.hp ++ [.vec (tab e).size ys]) := h
    have hx' := asSl_val hx h1
    obtain ⟨ad, len, cap, rfl, hl, hcap, hfull, hne⟩ := val_sl hx'
    replace hfull : cap = len := hfull
    simp only [List.length_nil] at hl
    subst hl
    subst hfull
    by_cases hy0 : ys = []
    · have hrun := nothing (ad := ad) (Nat.le_refl 0) hy0
      subst hy0
      have hnew := rel_new hs.rel (s := (tab e).size) (xs := []) (l := ⟨0, 0, 0, 0⟩) (w' := w) rfl (by simp) rfl rfl rfl (fun _ _ h => h) (Nat.le_refl _) (fun hlt => by simp at hlt) (fun k x hk => by simp at hk)
      refine ⟨_, w, _, _, _, hrun, h, ?_, hnew.1, hnew.2⟩
      exact ⟨1, by simp, ad, 0, 0, rfl, by simp, Nat.le_refl _, fun hlt => by simp at hlt, 0, rfl, by simp, fun _ hlt => by simp at hlt⟩
    · have hyl : 0 < ys.length := by cases ys <;> simp_all
      obtain ⟨olds, hxa, _⟩ := Apps.ofSl hut hx'
      obtain ⟨r, w', ρ', q1, q2, q3, q4⟩ := row_grown (ty := ty) (xs := []) hs (Stp.refl _ _ _) hs.rel hut hty (Apq.of hxa) hya rfl (by simpa using hroom) hbp' (by omega)
      rw [List.nil_append] at q2 q3 q4
      exact ⟨r, w', ρ', _, _, q1, h, q2, q3, q4⟩
end
end Go.Pt
namespace Go.Pt
open Go
section
variable {P : Program} {n₀ : Nat} {tab : Nat → Ty} {w : World} {ρ : Ro} {s : St} {a : Act} {o : Oper} {K E : AV → List Ent → Prop} {next : Act → World → Prop} {Q : Exit → Act → World → Prop}
theorem run_bi {b : Builtin} {args : Array Operand} {ts : Array TypeId} {r : Value} {w' : World} {us : List Value} (ho : o.op = .call ⟨.builtin b, args, ts⟩) {f : Sem Value} (hus : args.map a.eval = us.toArray)
    (hb : ∀ cs, builtin b ts o.type cs us.toArray = (do pure (.value (← f)) : Sem Next)) (h : f.run P w = .ok r w') :
    (execOp a.eval o).run P w = .ok (.value r) w' := by
  simp only [execOp, ho, resolve, hus, Sem.run_bind, Sem.run_pure, Result.andThen_ok, invoke]
  rw [hb]
  simp [h]
theorem run_getMap {b : Nat} {ms : Array MapEntry} {c : Nat} (h : w.heap[b]? = some (.map ms c)) : (getObj b).run P w = .ok (.map ms c) w := by simp [getObj, Sem.run, h]
theorem sound_append (ht : TabOk P tab) {args : Array Operand} {ts : Array TypeId} {x y : AV} {v1 v2 : Value} {t u e : TypeId} {l : List TypeId} (ho : o.op = .call ⟨.builtin .append, args, ts⟩) (hs : RelS ρ s a w)
    (hus : args.map a.eval = [v1, v2].toArray) (hts : ts.toList = t :: u :: l) (h1 : Val w (Stay ρ s.hp) ρ s.hp.length x v1) (h2 : Val w (Stay ρ s.hp) ρ s.hp.length y v2) (hk : (tab t).k = .slice e)
    (h : apA (std P n₀) (tab u) (tab e) x y s.hp K) (hg : Goes ρ s a w o.dst K next) : o.wp P a w next Q := by
  unfold apA at h
  split at h
  case h_2 => exact h.elim
  rename_i hbp
  have hbp' : 0 < (tab e).bytes := by simpa [ltN_eq] using hbp
  obtain ⟨ie, de, ze, hty⟩ := ht.of (t := e) (fun he => by rw [he] at hbp'; simp [Ty.no] at hbp')
  have hut := und_slice ht hk
  split at h
  · exact h.elim
  rename_i xs' tok hx
  have hx' := asSl_val hx h1
  have fin : ∀ {ys : List AV} {news : List Value}, Apps P w (Stay ρ s.hp) ρ (tab e).size u v2 ys news → (xs'.length + ys.length) * (tab e).bytes ≤ 2 ^ 47 → app (std P n₀) (tab e).size xs' ys tok s.hp K → o.wp P a w next Q := by
    intro ys news ha hb hk
    obtain ⟨r, w', ρ', σ', av, hr, hka, hva, hst, hrel⟩ := sound_app (ty := o.type) hut hty rfl hs hx' ha hb hbp' hk
    refine wp_value (run_bi (f := Builtin.append_ ts o.type #[v1, v2]) ho hus (fun cs => rfl) ?_) (hg.go _ _ _ _ _ hka hva hst hrel)
    have : ts = (t :: u :: l).toArray := by apply Array.ext'; simpa using hts
    rw [this]
    have e1 : Builtin.append_ (t :: u :: l).toArray o.type #[v1, v2] = Builtin.append_ #[t, u] o.type #[v1, v2] := by simp [Builtin.append_]
    rw [e1]; exact hr
  split at h
  · rename_i e' hu
    have huu := und_slice ht hu
    split at h
    · exact h.elim
    rename_i ys tk' hy
    obtain ⟨news, ha, _⟩ := Apps.ofSl huu (asSl_val hy h2)
    exact fin ha h.1 h.2
  · rename_i hu
    split at h
    case h_2 => exact h.elim
    rename_i hz
    split at h
    case h_2 => exact h.elim
    rename_i b
    have hz' := beN_t hz
    have ha := Apps.ofStr (w := w) (ρ := ρ) ht hu (S := Stay ρ s.hp) b
    rw [val_str h2, hz'] at fin
    rw [hz'] at h
    exact fin ha h.1 h.2
  · exact h.elim
theorem sound_appendQ (ht : TabOk P tab) {args : Array Operand} {ts : Array TypeId} {x y : AV} {v1 v2 : Value} {t u e e' : TypeId} {l : List TypeId} {xs ys : List AV} {tk : Tok} (ho : o.op = .call ⟨.builtin .append, args, ts⟩) (hs : RelS ρ s a w)
    (hus : args.map a.eval = [v1, v2].toArray) (hts : ts.toList = t :: u :: l) (h1 : Val w (Stay ρ s.hp) ρ s.hp.length x v1) (h2 : Val w (Stay ρ s.hp) ρ s.hp.length y v2) (hk : (tab t).k = .slice e)
    (hbp : ltN 0 (tab e).bytes = true) (hx : asSl (tab e).size x = some (xs, .full)) (hu : (tab u).k = .slice e') (hy : asSl (tab e).size y = some (ys, tk)) (hb : (xs.length + ys.length) * (tab e).bytes ≤ 2 ^ 47)
    (h : K (.sl (tab e).size (xs ++ ys) .no) s.hp) (hg : Goes ρ s a w o.dst K next) : o.wp P a w next Q := by
  have hbp' : 0 < (tab e).bytes := by simpa [ltN_eq] using hbp
  obtain ⟨ie, de, ze, hty⟩ := ht.of (t := e) (fun he => by rw [he] at hbp'; simp [Ty.no] at hbp')
  have hut := und_slice ht hk
  have huu := und_slice ht hu
  obtain ⟨news, ha, _⟩ := Apps.ofSl huu (asSl_val hy h2)
  obtain ⟨r, w', hr, hva, hst, hrel⟩ := sound_appQ (ty := o.type) hut hty rfl hs (asSl_val hx h1) ha hb hbp'
  refine wp_value (run_bi (f := Builtin.append_ ts o.type #[v1, v2]) ho hus (fun cs => rfl) ?_) (hg.go _ _ _ _ _ h hva hst hrel)
  have : ts = (t :: u :: l).toArray := by apply Array.ext'; simpa using hts
  rw [this]
  have e1 : Builtin.append_ (t :: u :: l).toArray o.type #[v1, v2] = Builtin.append_ #[t, u] o.type #[v1, v2] := by simp [Builtin.append_]
  rw [e1]; exact hr
theorem sound_bi (ht : TabOk P tab) {b : Builtin} {args : Array Operand} {ts : Array TypeId} (ho : o.op = .call ⟨.builtin b, args, ts⟩) (hs : RelS ρ s a w)
    (h : bi (std P n₀) tab b ts.toList (evs s args.toList) s.hp K) (hg : Goes ρ s a w o.dst K next) : o.wp P a w next Q := by
  have hv := evs_val hs args.toList
  have hmap : args.map a.eval = (args.toList.map a.eval).toArray := by apply Array.ext'; simp
  generalize hxs : evs s args.toList = xs at h hv
  generalize hus : args.toList.map a.eval = us at hv hmap
  unfold bi at h
  split at h
  ·
    split at h
    case h_2 => exact h.elim
    rename_i x
    split at h
    case h_2 => exact h.elim
    rename_i t l hts
    match us, hv with
    | [v], ⟨hv, _⟩ =>
      have hts' : ts = (t :: l).toArray := by apply Array.ext'; simpa using hts
      have fin : ∀ {n : Int} {d : TypeDesc}, P.underlying t = some d → (Builtin.len_ (t :: l).toArray o.type #[v]).run P w = .ok (.int .i64 n) w → K (.int .i64 n) s.hp → o.wp P a w next Q := by
        intro n d _ hr hk
        exact wp_value (run_bi (f := Builtin.len_ ts o.type #[v]) ho hmap (fun cs => rfl) (by rw [hts']; exact hr)) (hg.here hs hk ⟨1, rfl⟩)
      unfold lenA at h
      split at h
      · rename_i hk
        split at h
        case h_2 => exact h.elim
        obtain ⟨i, d, z, hty⟩ := ht.kind hk (by simp)
        have hd : d = .string := by have := hty.k; rw [hk] at this; cases d <;> simp [tkOf] at this; rfl
        subst hd
        have := val_str hv; subst this
        exact fin hty.und (by simp [Builtin.len_, run_underlying hty.und, goInt, std, stdOps]) h
      · rename_i e hk
        have hu := und_slice ht hk
        split at h
        · obtain ⟨ad, len, cap, rfl, hl, _⟩ := val_sl hv
          exact fin hu (by simp [Builtin.len_, run_underlying hu, goInt, std, stdOps, hl]) h
        · have := val_nils hv; subst this
          exact fin hu (by simp [Builtin.len_, run_underlying hu, goInt]) h
        · obtain ⟨d, hv⟩ := hv
          cases d with
          | zero => exact hv.elim
          | succ d =>
            obtain ⟨_, cap, _, rfl⟩ := hv
            exact fin hu (by simp [Builtin.len_, run_underlying hu, goInt, std, stdOps]) h
        · obtain ⟨_, ad, len, cap, rfl, rfl, _⟩ := val_vs hv
          exact fin hu (by simp [Builtin.len_, run_underlying hu, goInt]) h
        · exact h.elim
      · rename_i k e hk
        obtain ⟨i, d, z, hty⟩ := ht.kind hk (by simp)
        have hd : d = .map k e := by have := hty.k; rw [hk] at this; cases d <;> simp [tkOf] at this; obtain ⟨rfl, rfl⟩ := this; rfl
        subst hd
        split at h
        · obtain ⟨d, hv⟩ := hv
          cases d with
          | zero => exact hv.elim
          | succ d =>
            simp only [Cz] at hv; subst hv
            exact fin hty.und (by simp [Builtin.len_, run_underlying hty.und, goInt]) h
        · rw [nth_eq] at h
          split at h
          case h_2 => exact h.elim
          rename_i id _ es hes
          obtain ⟨ms, c, h1, h2, _⟩ := hs.rel.ents _ _ hes
          obtain ⟨d, hv⟩ := hv
          cases d with
          | zero => exact hv.elim
          | succ d =>
            obtain ⟨_, rfl⟩ := hv
            refine fin hty.und ?_ h
            have hget := run_getMap (P := P) h1
            simp [Builtin.len_, run_underlying hty.und, hget, goInt, std, stdOps, h2.length]
        · exact h.elim
      · exact h.elim
  ·
    split at h
    · match us, hv with
      | [v1, v2], ⟨h1, h2, _⟩ =>
        have := val_int h1; subst this
        have := val_int h2; subst this
        exact wp_value (run_bi (f := Builtin.min_ ts o.type [_, _].toArray) ho hmap (fun cs => rfl) (by simp [Builtin.min_, Builtin.min2]; rfl)) (hg.here hs h ⟨1, rfl⟩)
    · match us, hv with
      | [v1, v2, v3], ⟨h1, h2, h3, _⟩ =>
        have := val_int h1; subst this
        have := val_int h2; subst this
        have := val_int h3; subst this
        exact wp_value (run_bi (f := Builtin.min_ ts o.type [_, _, _].toArray) ho hmap (fun cs => rfl) (by simp [Builtin.min_, Builtin.min2]; rfl)) (hg.here hs h ⟨1, rfl⟩)
    · exact h.elim
  ·
    split at h
    · match us, hv with
      | [v1, v2], ⟨h1, h2, _⟩ =>
        have := val_int h1; subst this
        have := val_int h2; subst this
        exact wp_value (run_bi (f := Builtin.max_ ts o.type [_, _].toArray) ho hmap (fun cs => rfl) (by simp [Builtin.max_, Builtin.max2]; rfl)) (hg.here hs h ⟨1, rfl⟩)
    · match us, hv with
      | [v1, v2, v3], ⟨h1, h2, h3, _⟩ =>
        have := val_int h1; subst this
        have := val_int h2; subst this
        have := val_int h3; subst this
        exact wp_value (run_bi (f := Builtin.max_ ts o.type [_, _, _].toArray) ho hmap (fun cs => rfl) (by simp [Builtin.max_, Builtin.max2]; rfl)) (hg.here hs h ⟨1, rfl⟩)
    · exact h.elim
  ·
    split at h
    case h_2 => exact h.elim
    split at h
    case h_2 => exact h.elim
    rename_i t l hts
    have hts' : ts = (t :: l).toArray := by apply Array.ext'; simpa using hts
    split at h
    case h_2 => exact h.elim
    rename_i e hk
    match us, hv with
    | [v], ⟨hv, _⟩ =>
      have := val_nils hv; subst this
      exact wp_value (run_bi (f := Builtin.cap_ ts o.type [_].toArray) ho hmap (fun cs => rfl) (by rw [hts']; simp [Builtin.cap_, run_underlying (und_slice ht hk), goInt])) (hg.here hs h ⟨1, rfl⟩)
  ·
    split at h
    case h_2 => exact h.elim
    rename_i x y
    split at h
    case h_2 => exact h.elim
    rename_i t u l hts
    split at h
    case h_2 => exact h.elim
    rename_i e hk
    match us, hv with
    | [v1, v2], ⟨h1, h2, _⟩ =>
      split at h
      · exact sound_append ht ho hs hmap hts h1 h2 hk h hg
      · have hbp' : 0 < (tab e).bytes := by
          have h0 := h
          unfold apV apZ at h0
          repeat' split at h0
          all_goals first | exact h0.elim | (simpa [ltN_eq] using (by assumption : ltN 0 (tab e).bytes = true))
        obtain ⟨ie, de, ze, hty⟩ := ht.of (t := e) (fun he => by rw [he] at hbp'; simp [Ty.no] at hbp')
        obtain ⟨r, w', ρ', σ', av, hr, hka, hva, hst, hrel⟩ := sound_apV (ty := o.type) ht (und_slice ht hk) hty hs h1 h2 h
        refine wp_value (run_bi (f := Builtin.append_ ts o.type #[v1, v2]) ho hmap (fun cs => rfl) ?_) (hg.go _ _ _ _ _ hka hva hst hrel)
        have : ts = (t :: u :: l).toArray := by apply Array.ext'; simpa using hts
        rw [this]
        have e1 : Builtin.append_ (t :: u :: l).toArray o.type #[v1, v2] = Builtin.append_ #[t, u] o.type #[v1, v2] := by simp [Builtin.append_]
        rw [e1]; exact hr
  · exact h.elim
theorem sound_makeSlice (ht : TabOk P tab) {t : TypeId} {x y : Operand} (ho : o.op = .makeSlice t x y) (hs : RelS ρ s a w) (h : aop (std P n₀) tab (.makeSlice t x y) s K E) (hg : Goes ρ s a w o.dst K next) : o.wp P a w next Q := by
  have hx := ev_val hs x
  have hy := ev_val hs y
  simp only [aop] at h
  split at h
  case h_2 => exact h.elim
  rename_i e hk
  split at h
  case h_2 => exact h.elim
  rename_i hbp
  split at h
  case h_2 => exact h.elim
  rename_i k n ex
  split at h
  case h_2 => exact h.elim
  rename_i k' m ey
  rw [ex] at hx; rw [ey] at hy
  split at h
  case h_1 =>
    split at h
    · exact h.elim
    rename_i zv hz
    split at h
    case h_2 => exact h.elim
    rename_i hsp
    have hsp' : 0 < (tab e).size := by simpa [ltN_eq] using hsp
    obtain ⟨⟨rfl, h0, hb⟩, h⟩ := h
    have hbp' : 0 < (tab e).bytes := by simpa [ltN_eq] using hbp
    obtain ⟨i, d, z, hty, _, _⟩ := zeroT_val (w := w) (S := Stay ρ s.hp) (ρ := ρ) (n := 0) ht hz
    have hu := und_slice ht hk
    have hnle : n ≤ n * (tab e).bytes := by
      have : n * 1 ≤ n * ((tab e).bytes : Int) := Int.mul_le_mul_of_nonneg_left (by omega) h0
      omega
    have hrun := run_make (P := P) w t e i z hu hty.info hty.zero k k' n n h0 (Int.le_refl _) (by rw [← hty.bytes, Int.mul_comm]; omega) (by omega)
    have hm : madeCells z.cells (n.toNat * i.size) = (repl n.toNat z.cells.toList).toArray := zeros_repl _ _ _ (by rw [hty.zsize, hty.size])
    rw [hm] at hrun
    have hzl : z.cells.toList.length = (tab e).size := by rw [← hty.zsize]; simp
    have hst := rel_free hs.rel (.cells (repl n.toNat z.cells.toList).toArray e)
    obtain ⟨i2, d2, z2, hty2, hzv, hone⟩ := zeroT_val (w := w.alloc (.cells (repl n.toNat z.cells.toList).toArray e)) (S := Stay ρ s.hp) (ρ := ρ) (n := 0) ht hz
    have hzz : z2 = z := by have h1 := hty.info; have h2 := hty2.info; rw [h1] at h2; simp only [Option.some.injEq] at h2; subst h2; have h3 := hty.zero; have h4 := hty2.zero; rw [h3] at h4; simpa using h4.symm
    subst hzz
    obtain ⟨hzc, hz1⟩ := hzv.cells hone
    have hrd : ∀ (j : Nat) x, (List.replicate n.toNat zv)[j]? = some x → ∃ us, All2 (Val (w.alloc (.cells (repl n.toNat z2.cells.toList).toArray e)) (Stay ρ s.hp) ρ 0) x.cells us ∧ us.length = (tab e).size ∧ Reads (w.alloc (.cells (repl n.toNat z2.cells.toList).toArray e)) (Stay ρ s.hp) w.heap.size (0 + j * (tab e).size) us := by
      intro j x hx'
      rw [List.getElem?_replicate] at hx'
      split at hx'
      case isFalse => simp at hx'
      rename_i hj
      simp at hx'; subst hx'
      refine ⟨_, hzc, hzl, fun q v hv => ⟨new_stay hs.rel _, ?_, hz1 v (List.mem_of_getElem? hv)⟩⟩
      have hq := lt_of_get hv
      rw [Nat.zero_add]
      refine (cellAt_cells heap_alloc_new).trans ?_
      have hlt : j * (tab e).size + q < n.toNat * z2.cells.toList.length := by rw [hzl]; exact el_lt hj (by rw [← hzl]; exact hq)
      rw [List.getElem?_toArray, repl_get _ _ _ hlt, hzl, Nat.mul_comm, Nat.mul_add_mod, Nat.mod_eq_of_lt (by rw [← hzl]; exact hq)]
      exact hv
    obtain ⟨dd, hdd⟩ := vals_depth2 hrd
    refine wp_value (v := .slice (some ⟨w.heap.size, 0, none⟩) n.toNat n.toNat) ?_ (hg.go _ _ _ _ _ h ⟨dd + 1, _, _, _, rfl, by simp [std, stdOps], Nat.le_refl _, rfl, fun _ => ⟨_, _, rfl, hdd⟩⟩ hst.1 hst.2)
    simp [execOp, ho, val_int hx, val_int hy, hrun]
  case h_3 =>
    split at h
    · exact h.elim
    rename_i zv hz
    split at h
    case h_2 => exact h.elim
    rename_i hsp
    have hsp' : 0 < (tab e).size := by simpa [ltN_eq] using hsp
    obtain ⟨⟨rfl, h0, hb⟩, h⟩ := h
    have hbp' : 0 < (tab e).bytes := by simpa [ltN_eq] using hbp
    obtain ⟨i, d, z, hty, hzv, hone⟩ := zeroT_val (w := w) (S := Stay ρ s.hp) (ρ := ρ) (n := 0) ht hz
    have hu := und_slice ht hk
    rw [lenN_eq, snoc_eq] at h
    replace h : K (.vs s.hp.length (tab e).size 0 n n) (s.hp ++ [.vec (tab e).size (List.replicate n.toNat zv)]) := h
    have hnle : n ≤ n * (tab e).bytes := by
      have : n * 1 ≤ n * ((tab e).bytes : Int) := Int.mul_le_mul_of_nonneg_left (by omega) h0
      omega
    have hrun := run_make (P := P) w t e i z hu hty.info hty.zero k k' n n h0 (Int.le_refl _) (by rw [← hty.bytes, Int.mul_comm]; omega) (by omega)
    have hm : madeCells z.cells (n.toNat * i.size) = (repl n.toNat z.cells.toList).toArray := zeros_repl _ _ _ (by rw [hty.zsize, hty.size])
    rw [hm] at hrun
    have hzl : z.cells.toList.length = (tab e).size := by rw [← hty.zsize]; simp
    obtain ⟨hzc, hz1⟩ := hzv.cells hone
    have hnew := rel_new hs.rel (s := (tab e).size) (xs := List.replicate n.toNat zv) (l := ⟨w.heap.size, 0, n.toNat * (tab e).size, 0⟩) (w' := w.alloc (.cells (repl n.toNat z.cells.toList).toArray e)) rfl (by simp) rfl rfl rfl
      (fun _ _ h => heap_alloc_old h) (by rw [World.size_alloc]; simp)
      (fun _ => ⟨Nat.le_refl _, _, e, (0, 0), heap_alloc_new, by simp [repl_length, hzl], fun o' _ _ => World.frozen?_alloc_new w _ e o'⟩)
      (fun j x hx' => by
        rw [List.getElem?_replicate] at hx'
        split at hx'
        case isFalse => simp at hx'
        rename_i hj
        simp at hx'; subst hx'
        refine ⟨_, hzc, hzl, fun q v hv => ⟨?_, hz1 v (List.mem_of_getElem? hv)⟩⟩
        have hq := lt_of_get hv
        rw [Nat.zero_add]
        refine (cellAt_cells heap_alloc_new).trans ?_
        have hlt : j * (tab e).size + q < n.toNat * z.cells.toList.length := by rw [hzl]; exact el_lt hj (by rw [← hzl]; exact hq)
        rw [List.getElem?_toArray, repl_get _ _ _ hlt, hzl, Nat.mul_comm, Nat.mul_add_mod, Nat.mod_eq_of_lt (by rw [← hzl]; exact hq)]
        exact hv)
    refine wp_value (v := .slice (some ⟨w.heap.size, 0, none⟩) n.toNat n.toNat) ?_ (hg.go _ _ _ _ _ h ⟨1, by simp, _, _, _, rfl, by omega, Nat.le_refl _, fun _ => ⟨_, _, rfl⟩, 0, rfl, by omega, fun _ _ => by simp [Ro.tipAt]⟩ hnew.1 hnew.2)
    simp [execOp, ho, val_int hx, val_int hy, hrun]
  obtain ⟨⟨rfl, h0, hb⟩, h⟩ := h
  have hbp' : 0 < (tab e).bytes := by simpa [ltN_eq] using hbp
  obtain ⟨i, d, z, hty⟩ := ht.of (t := e) (fun he => by rw [he] at hbp'; simp [Ty.no] at hbp')
  have hu := und_slice ht hk
  rw [lenN_eq, snoc_eq, hty.zeros] at h
  have hst := rel_var hs.rel e (lits_repl (w := w) (S := Stay ρ s.hp) (ρ := ρ) (m := s.hp.length) z.cells.toList n.toNat)
  have hnle : n ≤ n * (tab e).bytes := by
    have : n * 1 ≤ n * ((tab e).bytes : Int) := Int.mul_le_mul_of_nonneg_left (by omega) h0
    omega
  have hrun := run_make (P := P) w t e i z hu hty.info hty.zero k k' n n h0 (Int.le_refl _) (by rw [← hty.bytes, Int.mul_comm]; omega) (by omega)
  refine wp_value (v := .slice (some ⟨w.heap.size, 0, none⟩) n.toNat n.toNat) (w' := w.alloc (.cells (repl n.toNat z.cells.toList).toArray e)) ?_ (hg.go _ _ _ _ _ h ⟨1, by simp, n.toNat, Nat.le_refl _, by simp [Ro.add]⟩ hst.1 hst.2)
  have hm : madeCells z.cells (n.toNat * i.size) = (repl n.toNat z.cells.toList).toArray := zeros_repl _ _ _ (by rw [hty.zsize, hty.size])
  rw [hm] at hrun
  simp [execOp, ho, val_int hx, val_int hy, hrun]
end
end Go.Pt
namespace Go.Pt
open Go
section
variable {P : Program} {n₀ : Nat} {tab : Nat → Ty} {w : World} {ρ : Ro} {s : St} {a : Act} {o : Oper} {K E : AV → List Ent → Prop} {next : Act → World → Prop} {Q : Exit → Act → World → Prop}
theorem optI_val {x : Option Operand} {n : Option Int} (hs : RelS ρ s a w) (h : optI s x = some n) :
    (n = none ∧ x.map a.eval = none) ∨ ∃ i k, n = some i ∧ x.map a.eval = some (.int k i) := by
  cases x with
  | none => simp [optI] at h; exact .inl ⟨h.symm, rfl⟩
  | some x =>
    simp only [optI] at h
    split at h
    · rename_i k i e
      simp only [Option.some.injEq] at h
      have hv := ev_val hs x
      rw [e] at hv
      exact .inr ⟨i, k, h.symm, by simp [val_int hv]⟩
    · simp at h
theorem val_piece {S : Nat → Nat → Prop} {n z : Nat} {xs : List AV} {tk : Tok} {v : Value} (h : Val w S ρ n (.sl z xs tk) v) :
    ∃ ad len cap, v = .slice ad len cap ∧ len = xs.length ∧ len ≤ cap ∧
      (∀ l : Nat, l ≤ len → Val w S ρ n (.sl z (xs.drop l) tk) (sliced ad l len cap z)) ∧
      (∀ l h m : Nat, l ≤ h → h ≤ m → h ≤ len → m ≤ cap → Val w S ρ n (.sl z ((xs.take h).drop l) .no) (sliced ad l h m z)) ∧
      (∀ l h : Nat, l ≤ h → h ≤ len → Val w S ρ n (.sl z ((xs.take h).drop l) .full) (sliced ad l h h z)) := by
  obtain ⟨ad, len, cap, rfl, h1, h2, h3, h4⟩ := val_sl h
  have rd : ∀ (l h m : Nat), l ≤ h → h ≤ m → h ≤ len → m ≤ cap → (xs.take h).drop l ≠ [] → ∃ b o, (if m = l then ad else ad.map (·.add (l * z))) = some ⟨b, o, none⟩ ∧
      ∀ (i : Nat) x, ((xs.take h).drop l)[i]? = some x → ∃ vs, All2 (Val w S ρ 0) x.cells vs ∧ vs.length = z ∧ Reads w S b (o + i * z) vs := by
    intro l h m hl hm hh hmc hne
    have hlt : l < h := by
      rcases Nat.lt_or_ge l h with h' | h'
      · exact h'
      · exfalso; apply hne; rw [List.drop_eq_nil_iff]; simp; omega
    obtain ⟨b, o, e, hg⟩ := h4 (by intro e; rw [e] at h1; simp at h1; omega)
    subst e
    rw [if_neg (by omega)]
    refine ⟨b, o + l * z, ?_, fun i x hi => ?_⟩
    · simp only [Option.map_some, Addr.add]
      split
      · rename_i e0; simp [e0]
      · rfl
    · rw [List.getElem?_drop, List.getElem?_take] at hi
      split at hi
      · obtain ⟨vs, a1, a2, a3⟩ := hg _ _ hi
        refine ⟨vs, a1, a2, ?_⟩
        rw [Nat.add_assoc, ← Nat.add_mul]; exact a3
      · simp at hi
  refine ⟨ad, len, cap, rfl, h1, h2, fun l hl => ?_, fun l h m hl hm hh hmc => ?_, fun l h hl hh => ?_⟩
  · have e : xs.drop l = (xs.take len).drop l := by rw [List.take_of_length_le (by omega)]
    refine val_sl_mk (by simp; omega) (by omega) ?_ (fun hne => ?_)
    · cases tk with
      | no => trivial
      | full => simp only [tokOk] at h3 ⊢; omega
      | tip id pos =>
        obtain ⟨k1, k2, k3⟩ := h3
        refine ⟨k1, k2, fun e' => ?_⟩
        obtain ⟨g1, g2⟩ := k3 e'
        refine ⟨by rw [show cap - l - (len - l) = cap - len by omega]; exact g1, fun hlt => ?_⟩
        obtain ⟨o', e1, e2⟩ := g2 (by omega)
        refine ⟨o' + l * z, ?_, ?_⟩
        · rw [if_neg (by omega), e1]
          simp only [Option.map_some, Addr.add]
          split
          · rename_i e0; simp [e0]
          · rfl
        · rw [← e2, Nat.add_assoc, ← Nat.add_mul, Nat.add_sub_cancel' hl]
    · rw [e] at hne ⊢
      exact rd l len cap hl h2 (Nat.le_refl _) (Nat.le_refl _) hne
  · exact val_sl_mk (by simp; omega) (by omega) trivial (rd l h m hl hm hh hmc)
  · exact val_sl_mk (by simp; omega) (Nat.le_refl _) rfl (rd l h h hl (Nat.le_refl _) hh (by omega))
theorem sound_slice (ht : TabOk P tab) {t : TypeId} {x : Operand} {lo hi mx : Option Operand} (ho : o.op = .slice t x lo hi mx) (hs : RelS ρ s a w) (h : aop (std P n₀) tab (.slice t x lo hi mx) s K E) (hg : Goes ρ s a w o.dst K next) : o.wp P a w next Q := by
  have hx := ev_val hs x
  simp only [aop] at h
  split at h
  case h_2 => exact h.elim
  rename_i l hl
  split at h
  case h_2 => exact h.elim
  rename_i hh hhi
  split at h
  case h_2 => exact h.elim
  rename_i m hm
  have bl := optI_val hs hl
  have bh := optI_val hs hhi
  have bm := optI_val hs hm
  have fin : ∀ {v : AV} {r : Value}, (Instr.sliceAt t (a.eval x) (lo.map a.eval) (hi.map a.eval) (mx.map a.eval)).run P w = .ok r w → K v s.hp → Val w (Stay ρ s.hp) ρ s.hp.length v r → o.wp P a w next Q := by
    intro v r hr hk hv
    exact wp_value (by simp [execOp, ho, hr]) (hg.here hs hk hv)
  unfold slA at h
  split at h
  · rename_i e hk
    have hu := und_slice ht hk
    have hue : P.underlying t = some (.slice (P.elem t)) := by rw [hu]; simp [Program.elem, hu]
    have hel : P.elem t = e := by simp [Program.elem, hu]
    split at h
    · exact h.elim
    rename_i hok
    obtain ⟨i', d', z', hty'⟩ := ht.ok hok
    have hz := run_size hty' w
    have key : ∀ {z : Nat} {xs : List AV} {tk : Tok}, z = (tab e).size → Val w (Stay ρ s.hp) ρ s.hp.length (.sl z xs tk) (a.eval x) → slX (std P n₀) z xs tk l hh m (fun v => K v s.hp) → o.wp P a w next Q := by
      intro z xs tk hzz hv hq
      subst hzz
      obtain ⟨ad, len, cap, hve, hl1, hl2, p1, p2, p3⟩ := val_piece hv
      have hxs : (xs.length : Int) = len := by rw [hl1]
      rw [hve] at fin
      unfold slX at hq
      rcases bh with ⟨rfl, bh⟩ | ⟨ih, kh, rfl, bh⟩ <;> rcases bm with ⟨rfl, bm⟩ | ⟨im, km, rfl, bm⟩ <;> rcases bl with ⟨rfl, bl⟩ | ⟨il, kl, rfl, bl⟩ <;> rw [bl, bh, bm] at fin <;> simp only at hq <;> try exact hq.elim
      · refine fin (by rw [run_sliceAt_slice w t _ _ _ _ hue, run_slice_all w t ad len cap hue, hel, hz]; rfl) hq ?_
        have := p1 0 (Nat.zero_le _); simpa using this
      · obtain ⟨h1, h2, h3⟩ := hq
        replace h1 : 0 ≤ il := h1
        replace h2 : il ≤ xs.length := h2
        refine fin (by rw [run_sliceAt_slice w t _ _ _ _ hue, run_slice_l w t ad len cap hue _ _ h1 (by omega), hel, hz]; rfl) h3 (p1 _ (by omega))
      · obtain ⟨h1, h2, h3⟩ := hq
        replace h1 : 0 ≤ ih := h1
        replace h2 : ih ≤ xs.length := h2
        refine fin (by rw [run_sliceAt_slice w t _ _ _ _ hue, run_slice_h w t ad len cap hue _ _ h1 (by omega), hel, hz]; rfl) h3 (p2 0 _ _ (Nat.zero_le _) (by omega) (by omega) (Nat.le_refl _))
      · obtain ⟨h1, h2, h3, h4⟩ := hq
        replace h1 : 0 ≤ il := h1
        replace h2 : il ≤ ih := h2
        replace h3 : ih ≤ xs.length := h3
        refine fin (by rw [run_sliceAt_slice w t _ _ _ _ hue, run_slice_lh w t ad len cap hue _ _ _ _ h1 h2 (by omega), hel, hz]; rfl) h4 (p2 _ _ _ (by omega) (by omega) (by omega) (Nat.le_refl _))
      · obtain ⟨h1, h2, h3, h4⟩ := hq
        replace h1 : 0 ≤ ih := h1
        replace h2 : ih ≤ im := h2
        replace h3 : im ≤ xs.length := h3
        by_cases e : ih = im
        · subst e
          refine fin (by rw [run_sliceAt_slice w t _ _ _ _ hue, run_slice_hm w t ad len cap hue _ _ _ _ h1 h2 (by omega), hel, hz]; rfl) (h4 .full fun _ => rfl) (p3 0 _ (Nat.zero_le _) (by omega))
        · refine fin (by rw [run_sliceAt_slice w t _ _ _ _ hue, run_slice_hm w t ad len cap hue _ _ _ _ h1 h2 (by omega), hel, hz]; rfl) (h4 .no fun e' => absurd e' e) (p2 0 _ _ (Nat.zero_le _) (by omega) (by omega) (by omega))
      · obtain ⟨h0, h1, h2, h3, h4⟩ := hq
        replace h0 : 0 ≤ il := h0
        replace h1 : il ≤ ih := h1
        replace h2 : ih ≤ im := h2
        replace h3 : im ≤ xs.length := h3
        by_cases e : ih = im
        · subst e
          refine fin (by rw [run_sliceAt_slice w t _ _ _ _ hue, run_slice_lhm w t ad len cap hue _ _ _ _ _ _ h0 h1 h2 (by omega), hel, hz]; rfl) (h4 .full fun _ => rfl) (p3 _ _ (by omega) (by omega))
        · refine fin (by rw [run_sliceAt_slice w t _ _ _ _ hue, run_slice_lhm w t ad len cap hue _ _ _ _ _ _ h0 h1 h2 (by omega), hel, hz]; rfl) (h4 .no fun e' => absurd e' e) (p2 _ _ _ (by omega) (by omega) (by omega) (by omega))
    split at h
    · rename_i z xs tk ex
      split at h
      case h_2 => exact h.elim
      rename_i hzz
      rw [ex] at hx
      exact key (beN_t hzz) hx h
    · rename_i ex
      rw [ex] at hx
      have hnv := val_nils hx
      have hx' : Val w (Stay ρ s.hp) ρ s.hp.length (.sl (tab e).size [] .full) (a.eval x) := by
        rw [hnv]
        exact val_sl_mk rfl (Nat.le_refl _) rfl (fun h => absurd rfl h)
      split at h
      · split at h
        · split at h
          · obtain ⟨h1, h2, h3⟩ := h
            rcases bh with ⟨hb, _⟩ | ⟨ih, kh, hb, bh⟩
            · exact nomatch hb
            simp only [Option.some.injEq] at hb
            rw [hb] at h1 h2
            replace h1 : 0 ≤ ih := h1
            replace h2 : ih ≤ (0 : Nat) := h2
            rcases bm with ⟨_, bm⟩ | ⟨im, km, hb, _⟩
            · rcases bl with ⟨_, bl⟩ | ⟨il, kl, hb, _⟩
              · rw [bl, bh, bm, hnv] at fin
                have h0 : ih = 0 := by omega
                subst h0
                refine fin (v := .nils) (r := .slice none 0 0) ?_ h3 ⟨1, rfl⟩
                rw [run_sliceAt_slice w t _ _ _ _ hue, run_slice_h w t none 0 0 hue _ _ (Int.le_refl _) (by simp), hel, hz]
                rfl
              · exact nomatch hb
            · exact nomatch hb
          · exact key rfl hx' h
        · exact key rfl hx' h
      · exact key rfl hx' h
    · rename_i id z o n N ex
      split at h
      case h_2 => exact h.elim
      rename_i hzz
      rw [ex] at hx
      have hzz' := beN_t hzz
      subst hzz'
      have hxv := hx
      obtain ⟨hid, ad, len, cap, hve, rfl, hcap, hadr, l0, rfl, hN, ha⟩ := val_vs hxv
      have piece : ∀ (l' h' m' : Nat) (o' N' : Int), l' ≤ h' → h' ≤ m' → m' ≤ cap → o' = (l0 : Int) + l' → (N' ≤ N ∧ N' ≤ (l0 : Int) + m') → Val w (Stay ρ s.hp) ρ s.hp.length (.vs id (tab e).size o' ((h' : Int) - l') N') (sliced ad l' h' m' (tab e).size) := by
        intro l' h' m' o' N' h1 h2 h3 h4 h5
        refine ⟨1, hid, _, _, _, rfl, by omega, by omega, fun hc => ?_, l0 + l', by omega, by omega, fun hp hc => ?_⟩
        · obtain ⟨b, q, rfl⟩ := hadr (by omega)
          rw [if_neg (by omega)]
          exact ⟨b, q + l' * (tab e).size, by simp [Addr.add_lit]⟩
        · obtain ⟨g1, g2⟩ := ha hp (by omega)
          rw [if_neg (by omega), g1]
          refine ⟨by simp [Addr.add_lit, Nat.add_mul, Nat.add_assoc], ?_⟩
          rw [show l0 + l' + (m' - l') = l0 + m' by omega]
          have := Nat.mul_le_mul_right (tab e).size (show l0 + m' ≤ l0 + cap by omega)
          omega
      rw [hve] at fin
      unfold slV at h
      rcases bh with ⟨rfl, bh⟩ | ⟨ih, kh, rfl, bh⟩ <;> rcases bm with ⟨rfl, bm⟩ | ⟨im, km, rfl, bm⟩ <;> rcases bl with ⟨rfl, bl⟩ | ⟨il, kl, rfl, bl⟩ <;> rw [bl, bh, bm] at fin <;> simp only at h <;> try exact h.elim
      · refine fin (by rw [run_sliceAt_slice w t _ _ _ _ hue, run_slice_all w t ad len cap hue, hel, hz]; rfl) h ?_
        have := piece 0 len cap l0 N (Nat.zero_le _) hcap (Nat.le_refl _) (by omega) ⟨Int.le_refl _, by omega⟩
        simpa using this
      · obtain ⟨h1, h2, h3⟩ := h
        replace h1 : 0 ≤ il := h1
        replace h2 : il ≤ len := h2
        replace h3 : K (.vs id (tab e).size ((l0 : Int) + il) ((len : Int) - il) N) s.hp := h3
        refine fin (by rw [run_sliceAt_slice w t _ _ _ _ hue, run_slice_l w t ad len cap hue _ _ h1 (by omega), hel, hz]; rfl) h3 ?_
        have := piece il.toNat len cap (l0 + il) N (by omega) hcap (Nat.le_refl _) (by omega) ⟨Int.le_refl _, by omega⟩
        rwa [show ((il.toNat : Nat) : Int) = il by omega] at this
      · obtain ⟨h1, h2, h3⟩ := h
        replace h1 : 0 ≤ ih := h1
        replace h2 : (l0 : Int) + ih ≤ N := h2
        refine fin (by rw [run_sliceAt_slice w t _ _ _ _ hue, run_slice_h w t ad len cap hue _ _ h1 (by omega), hel, hz]; rfl) h3 ?_
        have := piece 0 ih.toNat cap l0 N (by omega) (by omega) (Nat.le_refl _) (by omega) ⟨Int.le_refl _, by omega⟩
        simpa [show ((ih.toNat : Nat) : Int) = ih by omega] using this
      · obtain ⟨h1, h2, h3, h4⟩ := h
        replace h1 : 0 ≤ il := h1
        replace h2 : il ≤ ih := h2
        replace h3 : (l0 : Int) + ih ≤ N := h3
        replace h4 : K (.vs id (tab e).size ((l0 : Int) + il) (ih - il) N) s.hp := h4
        refine fin (by rw [run_sliceAt_slice w t _ _ _ _ hue, run_slice_lh w t ad len cap hue _ _ _ _ h1 h2 (by omega), hel, hz]; rfl) h4 ?_
        have := piece il.toNat ih.toNat cap (l0 + il) N (by omega) (by omega) (Nat.le_refl _) (by omega) ⟨Int.le_refl _, by omega⟩
        rwa [show ((il.toNat : Nat) : Int) = il by omega, show ((ih.toNat : Nat) : Int) = ih by omega] at this
      · obtain ⟨h1, h2, h3, h4⟩ := h
        replace h1 : 0 ≤ ih := h1
        replace h2 : ih ≤ im := h2
        replace h3 : (l0 : Int) + im ≤ N := h3
        replace h4 : K (.vs id (tab e).size l0 ih ((l0 : Int) + im)) s.hp := h4
        refine fin (by rw [run_sliceAt_slice w t _ _ _ _ hue, run_slice_hm w t ad len cap hue _ _ _ _ h1 h2 (by omega), hel, hz]; rfl) h4 ?_
        have := piece 0 ih.toNat im.toNat l0 (l0 + im) (by omega) (by omega) (by omega) (by omega) ⟨by omega, by omega⟩
        simpa [show ((ih.toNat : Nat) : Int) = ih by omega] using this
      · obtain ⟨h0, h1, h2, h3, h4⟩ := h
        replace h0 : 0 ≤ il := h0
        replace h1 : il ≤ ih := h1
        replace h2 : ih ≤ im := h2
        replace h3 : (l0 : Int) + im ≤ N := h3
        replace h4 : K (.vs id (tab e).size ((l0 : Int) + il) (ih - il) ((l0 : Int) + im)) s.hp := h4
        refine fin (by rw [run_sliceAt_slice w t _ _ _ _ hue, run_slice_lhm w t ad len cap hue _ _ _ _ _ _ h0 h1 h2 (by omega), hel, hz]; rfl) h4 ?_
        have := piece il.toNat ih.toNat im.toNat (l0 + il) (l0 + im) (by omega) (by omega) (by omega) (by omega) ⟨by omega, by omega⟩
        rwa [show ((il.toNat : Nat) : Int) = il by omega, show ((ih.toNat : Nat) : Int) = ih by omega] at this
    · exact h.elim
  · rename_i hk
    obtain ⟨i, d, z, hty⟩ := ht.kind hk (by simp)
    have hd : d = .string := by have := hty.k; rw [hk] at this; cases d <;> simp [tkOf] at this; rfl
    subst hd
    have hu := hty.und
    split at h
    case h_2 => exact h.elim
    rename_i b ex
    rw [ex] at hx
    rw [val_str hx] at fin
    unfold slS at h
    rcases bm with ⟨rfl, bm⟩ | ⟨im, km, rfl, bm⟩
    case inr => exact h.elim
    rcases bh with ⟨rfl, bh⟩ | ⟨ih, kh, rfl, bh⟩ <;> rcases bl with ⟨rfl, bl⟩ | ⟨il, kl, rfl, bl⟩ <;> rw [bl, bh, bm] at fin <;> simp only at h
    · refine fin (by rw [run_sliceAt_string w t _ _ _ _ hu, run_slice_string_all w t b hu]) h ⟨1, ?_⟩
      show Value.string (b.extract 0 b.size) = .string b
      simp
    · obtain ⟨h1, h2, h3⟩ := h
      exact fin (by rw [run_sliceAt_string w t _ _ _ _ hu, run_slice_string_l w t b hu _ _ h1 h2]; rfl) h3 ⟨1, rfl⟩
    · obtain ⟨h1, h2, h3⟩ := h
      exact fin (by rw [run_sliceAt_string w t _ _ _ _ hu, run_slice_string_h w t b hu _ _ h1 h2]; rfl) h3 ⟨1, rfl⟩
    · obtain ⟨h1, h2, h3, h4⟩ := h
      exact fin (by rw [run_sliceAt_string w t _ _ _ _ hu, run_slice_string w t b _ _ _ _ hu h1 h2 h3]; rfl) h4 ⟨1, rfl⟩
  · exact h.elim
end
end Go.Pt
namespace Go.Pt
open Go
section
variable {P : Program} {n₀ : Nat} {tab : Nat → Ty} {w : World} {ρ : Ro} {s : St} {a : Act} {o : Oper} {K E : AV → List Ent → Prop} {next : Act → World → Prop} {Q : Exit → Act → World → Prop}
theorem shape_leaf {k : TK} {x y : AV} (hx : shape1 k x = true) (hy : shape1 k y = true) : eqLeaf (std P n₀) k x y = some (keqC x y) := by
  cases k <;> cases x <;> (first | (simp [shape1] at hx; done) | skip) <;> cases y <;> (first | (simp [shape1] at hy; done) | skip)
  · rename_i k k1 n1 k2 n2
    have e1 := beN_t hx
    have e2 := beN_t hy
    simp only [eqLeaf, keqC]
    rw [show beN (kn k1) (kn k2) = true by rw [← e1, ← e2]; simp]
    rfl
  all_goals rfl
theorem shapes_all : ∀ {ks : List TK} {xs ys : List AV}, shapes ks xs = true → shapes ks ys = true → eqAll (std P n₀) ks xs ys = some (keqL xs ys)
  | [], [], [], _, _ => rfl
  | k :: ks, x :: xs, y :: ys, hx, hy => by
    simp only [shapes] at hx hy
    split at hx
    case h_2 => simp at hx
    rename_i h1
    split at hy
    case h_2 => simp at hy
    rename_i h2
    have ih := shapes_all hx hy
    simp only [eqAll, shape_leaf h1 h2]
    split
    · have : xs = [] := by cases xs with | nil => rfl | cons _ _ => simp [shapes] at hx
      subst this
      have : ys = [] := by cases ys with | nil => rfl | cons _ _ => simp [shapes] at hy
      subst this
      simp [keqL]
    · rw [ih]; rfl
  | [], _ :: _, _, hx, _ => by simp [shapes] at hx
  | [], [], _ :: _, _, hy => by simp [shapes] at hy
  | _ :: _, [], _, hx, _ => by simp [shapes] at hx
  | _ :: _, _ :: _, [], _, hy => by simp [shapes] at hy
theorem key_eqT {T : Ty} {x y : AV} (hl : T.lv ≠ []) (hx : keyOk T.agg T.lv x = true) (hy : keyOk T.agg T.lv y = true) : eqT (std P n₀) T x y = some (keq x y) := by
  unfold eqT
  split
  · rename_i e; exact absurd e hl
  · unfold keyOk at hx hy
    split
    · rename_i ha
      simp only [ha] at hx hy
      cases x <;> (first | (simp at hx; done) | skip)
      cases y <;> (first | (simp at hy; done) | skip)
      simp only at hx hy ⊢
      exact shapes_all hx hy
    · rename_i ha
      simp only [ha] at hx hy
      have one : ∀ {z : AV}, shapes T.lv [z] = true → z.cells = [z] := by
        intro z hz
        cases h : T.lv with
        | nil => exact absurd h hl
        | cons k ks =>
          rw [h] at hz
          simp only [shapes] at hz
          split at hz
          · rename_i h1
            cases z <;> first | rfl | (cases k <;> simp [shape1] at h1)
          · simp at hz
      rw [shapes_all hx hy]
      simp [keq, one hx, one hy]
theorem run_equalT (ht : TabOk P tab) (hgk : Gok w ρ) {t : TypeId} {x y : AV} {v u : Value} {b : Bool} {S : Nat → Nat → Prop} {n : Nat} (h : eqT (std P n₀) (tab t) x y = some b) (hx : Val w S ρ n x v) (hy : Val w S ρ n y u) :
    (Op.equal t v u).run P w = .ok b w := by
  unfold eqT at h
  split at h
  · simp at h
  rename_i ks hks
  have hno : tab t ≠ Ty.no := fun e => by rw [e] at hks; simp [Ty.no] at hks
  obtain ⟨i, d, z, hty⟩ := ht.of hno
  rw [hty.lv] at hks h
  have hlv : P.eqGuardType P.depth t = false ∧ leaves P 8 t = some (lvOf P t) := by
    unfold lvOf at hks ⊢
    split at hks
    · exact absurd rfl hks
    · rename_i hg
      refine ⟨by simpa using hg, ?_⟩
      simp only [hg, if_false, Bool.false_eq_true]
      cases hl : leaves P 8 t with
      | none => rw [hl] at hks; simp at hks
      | some l => simp
  split at h
  · rename_i ha
    have hagg : isAggT P t = true := by rw [hty.agg] at ha; simp [isAggT, hty.und, ha]
    cases x <;> first | (simp at h; done) | skip
    cases y <;> first | (simp at h; done) | skip
    obtain ⟨vs, rfl, h1⟩ := val_agg hx
    obtain ⟨us, rfl, h2⟩ := val_agg hy
    obtain ⟨h3, h4, h5⟩ := all_sound (P := P) hgk h h1 h2
    exact eq_main w 8 hlv.2 10000 (by omega) h4 h5 h3 (x := .agg vs.toArray) (y := .agg us.toArray) (by simp [asVal, hagg]) (by simp [asVal, hagg])
  · rename_i ha
    have hagg : isAggT P t = false := by rw [hty.agg] at ha; simp [isAggT, hty.und, ha]
    obtain ⟨h3, h4, h5⟩ := all_sound (P := P) (vs := [v]) (us := [u]) hgk h ⟨hx, trivial⟩ ⟨hy, trivial⟩
    exact eq_main w 8 hlv.2 10000 (by omega) h4 h5 h3 (x := v) (y := u) (by simp [asVal, hagg]) (by simp [asVal, hagg])
theorem findNow_asking {kt : TypeId} {d : TypeDesc} (hd : P.underlying kt = some d) {v : Value} : ∀ (ms : List MapEntry) (i : Nat) {r : Option (Nat × Value)}, Instr.findNow d v ms i = some r → (Instr.findAsking kt v ms i).run P w = .ok r w
  | [], i, r, h => by simp [Instr.findNow] at h; subst h; simp [Instr.findAsking]
  | m :: ms, i, r, h => by
    simp only [Instr.findNow] at h
    have key : ∀ {b : Bool}, Instr.sameNow d v m.key = some b → (Op.equal kt v m.key).run P w = .ok b w := by
      intro b hb
      refine eq_leaf (P := P) w hd 9999 ?_ (fun e he => by subst he; simp [Instr.sameNow] at hb)
      unfold Instr.sameNow at hb
      split at hb
      · split at hb
        · rename_i e; subst e; simp at hb; subst hb; simp_all [eqVL, tkOf]
        · simp at hb
      · simp at hb; subst hb; simp_all [eqVL, tkOf]
      · simp at hb; subst hb; simp_all [eqVL, tkOf]
      · simp at hb
    split at h
    · rename_i hb
      simp at h; subst h
      simp [Instr.findAsking, Sem.run_bind, key hb, Result.andThen]
    · rename_i hb
      simp only [Instr.findAsking, Sem.run_bind, key hb, Result.andThen_ok, Bool.false_eq_true, if_false]
      exact findNow_asking hd ms (i + 1) h
    · simp at h
theorem run_findKey_asking {kt : TypeId} {d : TypeDesc} (hd : P.underlying kt = some d) {v : Value} {ms : List MapEntry} {r : Option (Nat × Value)} (h : (Instr.findAsking kt v ms 0).run P w = .ok r w) : (Instr.findKey kt v ms).run P w = .ok r w := by
  simp only [Instr.findKey, Sem.run_bind, run_underlying hd, Result.andThen_ok]
  cases hf : Instr.findNow d v ms 0 with
  | none => simpa using h
  | some q =>
    have := findNow_asking (w := w) hd ms 0 hf
    rw [h] at this
    simp only [Result.ok.injEq] at this
    rw [this.1]; rfl
theorem shape_free {S : Nat → Nat → Prop} {n : Nat} {k : TK} {a : AV} {v : Value} (h : shape1 k a = true) (hv : Val w S ρ n a v) : Val w S ρ 0 a v := by
  obtain ⟨d, hv⟩ := hv
  cases d with
  | zero => exact hv.elim
  | succ d => cases k <;> cases a <;> first | exact ⟨1, hv⟩ | (simp [shape1] at h)
theorem shapes_free {S : Nat → Nat → Prop} {n : Nat} : ∀ {ks : List TK} {l : List AV} {vs : List Value}, shapes ks l = true → All2 (Val w S ρ n) l vs → All2 (Val w S ρ 0) l vs
  | [], [], [], _, _ => trivial
  | [], _ :: _, _, h, _ => by simp [shapes] at h
  | _ :: _, [], _, h, _ => by simp [shapes] at h
  | k :: ks, a :: l, v :: vs, h, hv => by
    simp only [shapes] at h
    split at h
    · rename_i e; exact ⟨shape_free e hv.1, shapes_free h hv.2⟩
    · simp at h
  | [], [], _ :: _, _, h => h.elim
  | _ :: _, _ :: _, [], _, h => h.elim
theorem key_free {S : Nat → Nat → Prop} {n : Nat} {agg : Bool} {lv : List TK} {k : AV} {v : Value} (h : keyOk agg lv k = true) (hv : Val w S ρ n k v) : Val w S ρ 0 k v := by
  unfold keyOk at h
  split at h
  · split at h
    · obtain ⟨vs, rfl, h2⟩ := val_agg hv
      obtain ⟨d, hd⟩ := all2_depth (shapes_free h h2)
      exact ⟨d + 1, vs, rfl, hd⟩
    · simp at h
  · exact (shapes_free (vs := [v]) h ⟨hv, trivial⟩).1
theorem find_all {S : Nat → Nat → Prop} {n : Nat} (ht : TabOk P tab) (hgk : Gok w ρ) {kt : TypeId} {k : AV} {v : Value} (hl : (tab kt).lv ≠ []) (hk : keyOk (tab kt).agg (tab kt).lv k = true) (hv : Val w S ρ n k v) :
    ∀ {es : List (AV × AV)} {ms : List MapEntry}, All2 (fun (x : AV × AV) (m : MapEntry) => Val w S ρ n x.1 m.key ∧ Val w S ρ n x.2 m.val) es ms → (∀ x ∈ es, keyOk (tab kt).agg (tab kt).lv x.1 = true) →
      (mfind es k = none ∧ (∀ i, (Instr.findAsking kt v ms i).run P w = .ok none w) ∧ (∀ u, mput es k u = es ++ [(k, u)]) ∧ mdel es k = es) ∨
      ∃ j x m, es[j]? = some x ∧ ms[j]? = some m ∧ keq k x.1 = true ∧ mfind es k = some x.2 ∧ (∀ i, (Instr.findAsking kt v ms i).run P w = .ok (some (i + j, m.val)) w) ∧ (∀ u, mput es k u = es.set j (k, u)) ∧ mdel es k = es.eraseIdx j
  | [], [], _, _ => .inl ⟨rfl, fun i => by simp [Instr.findAsking], fun u => rfl, rfl⟩
  | x :: es, m :: ms, h, hs => by
    have he := run_equalT (n₀ := 0) (w := w) ht hgk (key_eqT (P := P) (n₀ := 0) hl hk (hs x List.mem_cons_self)) hv h.1.1
    cases hb : keq k x.1 with
    | true =>
      rw [hb] at he
      exact .inr ⟨0, x, m, rfl, rfl, hb, by simp [mfind, hb], fun i => by simp [Instr.findAsking, Sem.run_bind, he, Result.andThen], fun u => by simp [mput, hb], by simp [mdel, hb]⟩
    | false =>
      rw [hb] at he
      have step : ∀ i, (Instr.findAsking kt v (m :: ms) i).run P w = (Instr.findAsking kt v ms (i + 1)).run P w := fun i => by
        simp [Instr.findAsking, Sem.run_bind, he, Result.andThen]
      rcases find_all ht hgk hl hk hv h.2 (fun y hy => hs y (List.mem_cons_of_mem _ hy)) with ⟨h1, h2, h3, h4⟩ | ⟨j, y, m', h1, h2, h3, h4, h5, h6, h7⟩
      · exact .inl ⟨by simp [mfind, hb, h1], fun i => by rw [step, h2], fun u => by simp [mput, hb, h3], by simp [mdel, hb, h4]⟩
      · exact .inr ⟨j + 1, y, m', by simpa using h1, by simpa using h2, h3, by simp [mfind, hb, h4], fun i => by rw [step, h5, show i + 1 + j = i + (j + 1) by omega], fun u => by simp [mput, hb, h6], by simp [mdel, hb, h7]⟩
  | [], _ :: _, h, _ => h.elim
  | _ :: _, [], h, _ => h.elim
theorem keq_val {S S' : Nat → Nat → Prop} {n n' : Nat} {ρ' : Ro} : ∀ {ks : List TK} {xs ys : List AV} {vs us : List Value}, shapes ks xs = true → shapes ks ys = true → keqL xs ys = true → All2 (Val w S ρ n) xs vs → All2 (Val w S' ρ' n') ys us → vs = us ∧ ∀ v ∈ vs, v.oneCell' = true ∧ ∀ m, Instr.sameBits m v v = true
  | [], [], [], [], [], _, _, _, _, _ => ⟨rfl, by simp⟩
  | k :: ks, x :: xs, y :: ys, v :: vs, u :: us, hx, hy, he, hv, hu => by
    simp only [shapes] at hx hy
    split at hx
    case h_2 => simp at hx
    rename_i h1
    split at hy
    case h_2 => simp at hy
    rename_i h2
    simp only [keqL, Bool.and_eq_true] at he
    obtain ⟨rfl, hall⟩ := keq_val hx hy he.2 hv.2 hu.2
    have hvu : v = u ∧ v.oneCell' = true ∧ ∀ m, Instr.sameBits m v v = true := by
      have hv1 := hv.1
      have hu1 := hu.1
      cases k <;> cases x <;> (first | (simp [shape1] at h1; done) | skip) <;> cases y <;> (first | (simp [shape1] at h2; done) | skip)
      · rename_i k k1 n1 k2 n2
        have e1 := kn_eq h1
        have e2 := kn_eq h2
        subst e1; subst e2
        have := val_int hv1; subst this
        have := val_int hu1; subst this
        have := he.1
        simp only [keqC, beq_iff_eq] at this
        subst this
        exact ⟨rfl, rfl, fun m => by cases m <;> simp [Instr.sameBits]⟩
      all_goals
        first | (have := val_bool hv1; subst this) | (have := val_bl hv1; subst this) | (have := val_str hv1; subst this)
        first | (have := val_bool hu1; subst this) | (have := val_bl hu1; subst this) | (have := val_str hu1; subst this)
        have := he.1
        simp only [keqC, AV.tell, beq_iff_eq] at this
        first | subst this | (have := (MapKept.bytes_beq _ _).1 this; subst this)
        exact ⟨rfl, rfl, fun m => by cases m <;> simp [Instr.sameBits, (MapKept.bytes_beq _ _).2 rfl]⟩
    obtain ⟨rfl, h3, h4⟩ := hvu
    exact ⟨rfl, fun v' hv' => by
      rcases List.mem_cons.1 hv' with rfl | hv'
      · exact ⟨h3, h4⟩
      · exact hall v' hv'⟩
  | [], _ :: _, _, _, _, hx, _, _, _, _ => by simp [shapes] at hx
  | [], [], _ :: _, _, _, _, hy, _, _, _ => by simp [shapes] at hy
  | [], [], [], _ :: _, _, _, _, _, hv, _ => hv.elim
  | [], [], [], [], _ :: _, _, _, _, _, hu => hu.elim
  | _ :: _, [], _, _, _, hx, _, _, _, _ => by simp [shapes] at hx
  | _ :: _, _ :: _, [], _, _, _, hy, _, _, _ => by simp [shapes] at hy
  | _ :: _, _ :: _, _ :: _, [], _, _, _, _, hv, _ => hv.elim
  | _ :: _, _ :: _, _ :: _, _ :: _, [], _, _, _, _, hu => hu.elim
theorem key_same {S : Nat → Nat → Prop} {n : Nat} {agg : Bool} {lv : List TK} {x y : AV} {v u : Value} (hl : lv ≠ []) (hx : keyOk agg lv x = true) (hy : keyOk agg lv y = true) (he : keq x y = true) (hv : Val w S ρ n x v) (hu : Val w S ρ n y u) :
    (Instr.keyThatStays u v).run P w = .ok v w := by
  have fin : v = u ∧ Instr.sameBits 10000 v v = true := by
    unfold keyOk at hx hy
    cases agg with
    | true =>
      cases x <;> (first | (simp at hx; done) | skip)
      cases y <;> (first | (simp at hy; done) | skip)
      simp only at hx hy
      obtain ⟨vs, rfl, h1⟩ := val_agg hv
      obtain ⟨us, rfl, h2⟩ := val_agg hu
      obtain ⟨rfl, h3⟩ := keq_val hx hy he h1 h2
      refine ⟨rfl, ?_⟩
      simp only [Instr.sameBits, BEq.rfl, Bool.true_and]
      rw [List.all_eq_true]
      intro z hz
      have : ∀ (l : List Value), ∀ z ∈ l.zip l, z.1 = z.2 ∧ z.1 ∈ l := by
        intro l
        induction l with
        | nil => simp
        | cons q l ih =>
          intro z hz
          rcases List.mem_cons.1 hz with rfl | hz
          · exact ⟨rfl, List.mem_cons_self⟩
          · obtain ⟨e1, e2⟩ := ih z hz; exact ⟨e1, List.mem_cons_of_mem _ e2⟩
      obtain ⟨e1, e2⟩ := this vs z hz
      rw [← e1]; exact (h3 _ e2).2 _
    | false =>
      simp only at hx hy
      have one : ∀ {z : AV}, shapes lv [z] = true → z.cells = [z] := by
        intro z hz
        cases h : lv with
        | nil => exact absurd h hl
        | cons k ks =>
          rw [h] at hz
          simp only [shapes] at hz
          split at hz
          · rename_i h1
            cases z <;> first | rfl | (cases k <;> simp [shape1] at h1)
          · simp at hz
      simp only [keq, one hx, one hy] at he
      obtain ⟨e, h3⟩ := keq_val (vs := [v]) (us := [u]) hx hy he ⟨hv, trivial⟩ ⟨hu, trivial⟩
      simp at e
      exact ⟨e, (h3 v (by simp)).2 _⟩
  obtain ⟨rfl, h2⟩ := fin
  simp [Instr.keyThatStays, h2]
theorem check_plain {t : TypeId} {d : TypeDesc} (hu : P.underlying t = some d) (hp : (tkOf d).plain = true) (e : Bool) (m : Nat) (v : Value) : (Instr.checkKey e (m + 1) t v).run P w = .ok () w := by
  unfold Instr.checkKey
  simp only [Sem.run_bind, run_underlying hu, Result.andThen_ok]
  cases d <;> simp [tkOf, TK.plain] at hp <;> simp
theorem check_fields {cs : Array Value} {n : Nat} {e : Bool} {m : Nat} (ht : TabOk P tab) (hn : n = cs.size) : ∀ (fs : List Field), flds tab n (fs.map fun f => (f.type, f.offset)) = true →
    (forIn fs PUnit.unit (fun f (_ : PUnit) => do
      if f.name ≠ "_" then
        Instr.checkKey e (m + 1) f.type (← part f.type cs f.offset)
        pure (ForInStep.yield PUnit.unit)
      else pure (ForInStep.yield PUnit.unit)) : Sem PUnit).run P w = .ok PUnit.unit w
  | [], _ => by simp
  | f :: fs, h => by
    simp only [List.map_cons, flds] at h
    split at h
    case h_2 => simp at h
    rename_i hp
    split at h
    case h_2 => simp at h
    rename_i hlt
    have hlt' : f.offset < cs.size := by rw [← hn]; simpa [ltN_eq] using hlt
    obtain ⟨i, d, z, hty⟩ := ht.kind (t := f.type) (k := (tab f.type).k) rfl (by intro e; rw [e] at hp; simp [TK.plain] at hp)
    have hpd : (tkOf d).plain = true := by rw [← hty.k]; exact hp
    have hone : isAggT P f.type = false := by simp only [isAggT, hty.und]; cases d <;> simp [tkOf, TK.plain, aggOf] at hpd ⊢
    have hpart := run_part_one (P := P) (w := w) (t := f.type) (xs := cs) (off := f.offset) (v := cs[f.offset]) (by simp [hty.und]) hone (by simp [hlt'])
    have ih := check_fields (e := e) (m := m) ht hn fs h
    by_cases hname : f.name = "_"
    · simp only [List.forIn_cons, Sem.run_bind, hname, ne_eq, not_true_eq_false, if_false, Sem.run_pure, Result.andThen_ok]
      exact ih
    · simp only [List.forIn_cons, Sem.run_bind, hname, ne_eq, not_false_eq_true, if_true, hpart, Result.andThen_ok, check_plain hty.und hpd e m, Sem.run_pure]
      exact ih
theorem check_key {S : Nat → Nat → Prop} {n : Nat} (ht : TabOk P tab) {kt : TypeId} {k : AV} {v : Value} {e : Bool} (hkt : keyTy tab (tab kt) = true) (hk : keyOk (tab kt).agg (tab kt).lv k = true) (hv : Val w S ρ n k v) : (Instr.checkKey e 10000 kt v).run P w = .ok () w := by
  unfold keyTy at hkt
  split at hkt
  · simp at hkt
  have plain : (tab kt).k.plain = true → (Instr.checkKey e 10000 kt v).run P w = .ok () w := by
    intro hp
    obtain ⟨i, d, z, hty⟩ := ht.kind (t := kt) (k := (tab kt).k) rfl (by intro e; rw [e] at hp; simp [TK.plain] at hp)
    exact check_plain hty.und (by rw [← hty.k]; exact hp) e 9999 v
  split at hkt
  · rename_i e1; exact plain (by rw [e1]; rfl)
  · rename_i e1; exact plain (by rw [e1]; rfl)
  · rename_i e1; exact plain (by rw [e1]; rfl)
  · rename_i fs e1
    obtain ⟨i, d, z, hty⟩ := ht.kind e1 (by simp)
    have hd : ∃ gs : Array Field, d = .struct gs ∧ gs.toList.map (fun f => (f.type, f.offset)) = fs := by
      have := hty.k; rw [e1] at this
      cases d <;> simp [tkOf] at this
      exact ⟨_, rfl, by simp [this]⟩
    obtain ⟨gs, rfl, hgs⟩ := hd
    have hagg : (tab kt).agg = true := by rw [hty.agg]; rfl
    unfold keyOk at hk
    rw [hagg] at hk
    cases k <;> (first | (simp at hk; done) | skip)
    simp only at hk
    obtain ⟨vs, rfl, h1⟩ := val_agg hv
    have hlen : lenN (tab kt).lv = vs.length := by
      have hsh : ∀ {ks : List TK} {xs : List AV}, shapes ks xs = true → ks.length = xs.length := by
        intro ks
        induction ks with
        | nil => intro xs h; cases xs with | nil => rfl | cons _ _ => simp [shapes] at h
        | cons k ks ih =>
          intro xs h
          cases xs with
          | nil => simp [shapes] at h
          | cons x xs =>
            simp only [shapes] at h
            split at h
            · simp [ih h]
            · simp at h
      rw [lenN_eq, hsh hk]; exact h1.length
    rw [← hgs] at hkt
    have := check_fields (e := e) (m := 9998) (cs := vs.toArray) (w := w) ht (by simpa using hlen) gs.toList hkt
    show (Instr.checkKey e (9998 + 1 + 1) kt (.agg vs.toArray)).run P w = _
    rw [Instr.checkKey]
    simp only [Sem.run_bind, run_underlying hty.und, Result.andThen_ok]
    rw [← Array.forIn_toList]
    rw [this]; rfl
  · simp at hkt
theorem rel_map (h : Rel ρ s.hp w) {i : Nat} {es es' : List (AV × AV)} {ms ms' : List MapEntry} {c c' : Nat} (hi : s.hp[i]? = some (.mp es)) (hb : w.heap[ρ.b i]? = some (.map ms.toArray c))
    (hv : All2 (fun (x : AV × AV) (m : MapEntry) => Val w (Stay ρ s.hp) ρ 0 x.1 m.key ∧ Val w (Stay ρ s.hp) ρ 0 x.2 m.val) es' ms') (hlt : ∀ m ∈ ms', m.born < c') (hnd : (ms'.map (·.born)).Nodup) :
    Stp ρ s.hp w ρ (setN s.hp i (.mp es')) (w.putObj (ρ.b i) (.map ms'.toArray c')) ∧ Rel ρ (setN s.hp i (.mp es')) (w.putObj (ρ.b i) (.map ms'.toArray c')) := by
  have hnew := World.putObj_heap_same (w := w) (o := .map ms'.toArray c') (lt_of_heap hb)
  have oth : ∀ {b : Nat}, b ≠ ρ.b i → (w.putObj (ρ.b i) (.map ms'.toArray c')).heap[b]? = w.heap[b]? := fun h => World.putObj_heap_other h
  have hlen : (setN s.hp i (.mp es')).length = s.hp.length := by rw [setN_eq]; simp
  have hown : ∀ b o, Own ρ (setN s.hp i (.mp es')) b o ↔ Own ρ s.hp b o := by
    intro b o
    constructor
    · rintro ⟨j, f, hj, ho⟩
      rcases get_set hj with ⟨rfl, rfl⟩ | ⟨hne, hj⟩
      · exact ⟨j, _, hi, ho⟩
      · exact ⟨j, f, hj, ho⟩
    · rintro ⟨j, f, hj, ho⟩
      by_cases hne : j = i
      · subst hne
        rw [hi] at hj; simp at hj; subst hj
        exact ⟨j, .mp es', by rw [setN_eq]; simp [lt_of_get hi], ho⟩
      · exact ⟨j, f, by rw [setN_eq, List.getElem?_set]; simp [Ne.symm hne, hj], ho⟩
  have hst : Stp ρ s.hp w ρ (setN s.hp i (.mp es')) (w.putObj (ρ.b i) (.map ms'.toArray c')) := by
    refine ⟨rfl, rfl, rfl, by rw [World.putObj_size]; exact Nat.le_refl _, fun b ob hob => ?_, fun b o _ ho => (hown b o).1 ho, by omega, fun _ _ => rfl, fun _ _ => .inl rfl, rfl, rfl, .set (fun _ _ h => by cases h)⟩
    by_cases hbb : b = ρ.b i
    · subst hbb
      rw [hb] at hob; simp at hob; subst hob
      exact ⟨_, hnew, .inl ⟨i, _, hi, rfl⟩⟩
    · exact ⟨ob, by rw [oth hbb]; exact hob, okBlk.refl _ _⟩
  refine ⟨hst, fun j f hj => ?_, fun j l f g b o hj hl hf hg => ?_, fun b o ho => by rw [World.putObj_size]; exact h.xlt b o ho, fun b o ho => h.xown b o ((hown b o).1 ho), hst.gok h⟩
  · rcases get_set hj with ⟨rfl, rfl⟩ | ⟨hne, hj⟩
    · exact ⟨ms', c', hnew, hv.imp fun _ _ h => ⟨h.1.keep hst.keeps.zero, h.2.keep hst.keeps.zero⟩, hlt, hnd⟩
    · refine (h.ents j f hj).keep hst.keeps (lt_of_get hj) rfl (fun hk => ?_) (fun hp hlt c e' f' hc => ?_) (fun t os he => ⟨rfl, fun m hm => by subst he; exact oth (fam_apart (o := 0) h hj hi hne rfl m hm)⟩)
      · refine oth fun e => hne ?_
        refine h.disj j i f _ (ρ.b i) 0 hj hi ?_ rfl
        cases f <;> simp_all [Ent.blk, OwnE]
      · refine ⟨c, ?_, rfl, fun _ _ _ => rfl⟩
        rw [oth fun e => by rw [e, hb] at hc; simp at hc]; exact hc
  · have back : ∀ j f, (setN s.hp i (.mp es'))[j]? = some f → OwnE ρ j b o f → ∃ f', s.hp[j]? = some f' ∧ OwnE ρ j b o f' := by
      intro j f hj ho
      rcases get_set hj with ⟨rfl, rfl⟩ | ⟨hne, hj⟩
      · exact ⟨_, hi, ho⟩
      · exact ⟨f, hj, ho⟩
    obtain ⟨f', hj', hf'⟩ := back j f hj hf
    obtain ⟨g', hl', hg'⟩ := back l g hl hg
    exact h.disj j l f' g' b o hj' hl' hf' hg'
theorem map_und (ht : TabOk P tab) {t kt et : TypeId} (hk : (tab t).k = .map kt et) : P.underlying t = some (.map kt et) := by
  obtain ⟨i, d, z, hty⟩ := ht.kind hk (by simp)
  have hd : d = .map kt et := by have := hty.k; rw [hk] at this; cases d <;> simp [tkOf] at this; obtain ⟨rfl, rfl⟩ := this; rfl
  rw [← hd]; exact hty.und
theorem val_mp {S : Nat → Nat → Prop} {n id : Nat} {v : Value} (h : Val w S ρ n (.mp id) v) : id < n ∧ v = .map (some (ρ.b id)) := by
  obtain ⟨d, h⟩ := h; cases d <;> simp [Cz] at h; exact h
theorem val_nilm {S : Nat → Nat → Prop} {n : Nat} {v : Value} (h : Val w S ρ n .nilm v) : v = .map none := by
  obtain ⟨d, h⟩ := h; cases d <;> simp [Cz] at h; exact h
theorem key_ne {T : Ty} (h : keyTy tab T = true) : T.lv ≠ [] := by
  intro e; unfold keyTy at h; rw [e] at h; simp at h
theorem sound_lookup (ht : TabOk P tab) {t : TypeId} {x k : Operand} {cok : Bool} (ho : o.op = .lookup t x k cok) (hs : RelS ρ s a w) (h : aop (std P n₀) tab (.lookup t x k cok) s K E) (hg : Goes ρ s a w o.dst K next) : o.wp P a w next Q := by
  have hx := ev_val hs x
  have hk := ev_val hs k
  simp only [aop] at h
  unfold lkA at h
  split at h
  case h_2 => exact h.elim
  rename_i kt et hmk
  have hu := map_und ht hmk
  split at h
  · exact h.elim
  rename_i hkt
  split at h
  · exact h.elim
  rename_i hko
  split at h
  · exact h.elim
  rename_i z hz
  obtain ⟨zi, zd, zv, hzt, hz2, _⟩ := zeroV_val (w := w) (S := Stay ρ s.hp) (ρ := ρ) (n := s.hp.length) ht hz
  have hz1 := run_zero hzt w
  have hlv := key_ne hkt
  have out : ∀ {v : AV} {u : Value} {b : Bool}, Val w (Stay ρ s.hp) ρ s.hp.length v u → Val w (Stay ρ s.hp) ρ s.hp.length (lkV cok v b) (if cok then .tuple #[u, .bool b] else u) := by
    intro v u b hv
    cases cok with
    | false => exact hv
    | true =>
      obtain ⟨d, hd⟩ := hv
      refine ⟨d + 2, [u, .bool b], rfl, Cz.succ _ _ _ hd, ?_, trivial⟩
      rfl
  split at h
  · rename_i e
    rw [e] at hx
    have := val_nilm hx
    refine wp_value (v := if cok then .tuple #[zv, .bool false] else zv) (w' := w) ?_ (hg.here hs h (out hz2))
    have hc := check_key (w := w) ht (e := true) hkt hko hk
    simp only [execOp, ho, this, Instr.lookup, Sem.run_bind, run_underlying hu, Result.andThen_ok, Sem.run_pure, Array.isEmpty_empty, hc]
    obtain ⟨i, d, zz, hty⟩ := ht.of (t := kt) (fun e => by rw [e] at hlv; simp [Ty.no] at hlv)
    have hf : (Instr.findKey kt (a.eval k) []).run P w = .ok none w := run_findKey_asking hty.und (by simp [Instr.findAsking])
    simp only [hf, Result.andThen_ok, Sem.run_bind, hz1, Sem.run_pure]
    try (cases cok <;> rfl)
  · rename_i id e
    rw [e] at hx
    obtain ⟨_, hxv⟩ := val_mp hx
    rw [nth_eq] at h
    split at h
    case h_2 => exact h.elim
    rename_i es hes
    obtain ⟨ms, c, hb, hall, hborn, hnd⟩ := hs.rel.ents _ _ hes
    obtain ⟨hmok, h1, h2⟩ := h
    have hc := check_key (w := w) (e := ms.toArray.isEmpty) ht hkt hko hk
    have hgm := run_getMap (P := P) hb
    obtain ⟨i, d, zz, hty⟩ := ht.of (t := kt) (fun e => by rw [e] at hlv; simp [Ty.no] at hlv)
    rcases find_all (w := w) (P := P) ht hs.rel.gok hlv hko (key_free hko hk) hall hmok with ⟨f1, f2, _, _⟩ | ⟨j, y, m, g1, g2, g3, g4, g5, _, _⟩
    · refine wp_value (v := if cok then .tuple #[zv, .bool false] else zv) (w' := w) ?_ (hg.here hs (h2 f1) (out hz2))
      have hf := run_findKey_asking hty.und (f2 0)
      simp only [execOp, ho, hxv, Instr.lookup, Sem.run_bind, run_underlying hu, Result.andThen_ok, hgm, Sem.run_pure, hc, hf, hz1]
      try (cases cok <;> rfl)
    · obtain ⟨m', hm', hv'⟩ := hall.get g1
      rw [g2] at hm'; simp at hm'; subst hm'
      refine wp_value (v := if cok then .tuple #[m.val, .bool true] else m.val) (w' := w) ?_ (hg.here hs (h1 _ g4) (out hv'.2.up))
      have hf := run_findKey_asking hty.und (g5 0)
      simp only [execOp, ho, hxv, Instr.lookup, Sem.run_bind, run_underlying hu, Result.andThen_ok, hgm, Sem.run_pure, hc, hf]
      try (cases cok <;> rfl)
  · exact h.elim
theorem map_born {ms : List MapEntry} {c : Nat} {k v : Value} (h1 : ∀ m ∈ ms, m.born < c) (h2 : (ms.map (·.born)).Nodup) :
    (∀ m ∈ ms ++ [({ key := k, val := v, born := c } : MapEntry)], m.born < c + 1) ∧ ((ms ++ [({ key := k, val := v, born := c } : MapEntry)]).map (·.born)).Nodup := by
  refine ⟨fun m hm => ?_, ?_⟩
  · rcases List.mem_append.1 hm with hm | hm
    · have := h1 m hm; omega
    · simp at hm; subst hm; exact Nat.lt_succ_self _
  · rw [List.map_append, List.nodup_append]
    refine ⟨h2, by simp, fun x hx y hy e => ?_⟩
    obtain ⟨m, hm, rfl⟩ := List.mem_map.1 hx
    simp at hy; subst hy
    have := h1 m hm; omega
theorem map_set {ms : List MapEntry} {j : Nat} {m m' : MapEntry} {c : Nat} (hj : ms[j]? = some m) (hb : m'.born = m.born) (h1 : ∀ m ∈ ms, m.born < c) (h2 : (ms.map (·.born)).Nodup) :
    (∀ x ∈ ms.set j m', x.born < c) ∧ ((ms.set j m').map (·.born)).Nodup := by
  have e : (ms.set j m').map (·.born) = ms.map (·.born) := by
    rw [List.map_set, hb]
    apply List.ext_getElem?
    intro i
    rw [List.getElem?_set]
    split
    · rename_i e; subst e
      have := lt_of_get hj
      have hm := (List.getElem?_eq_some_iff.1 hj).2
      simp [this, hm]
    · rfl
  refine ⟨fun x hx => ?_, by rw [e]; exact h2⟩
  have : x.born ∈ (ms.set j m').map (·.born) := List.mem_map_of_mem hx
  rw [e] at this
  obtain ⟨y, hy, he⟩ := List.mem_map.1 this
  rw [← he]; exact h1 y hy
theorem sound_mapUpdate (ht : TabOk P tab) {t : TypeId} {x k v : Operand} (ho : o.op = .mapUpdate t x k v) (hs : RelS ρ s a w) (h : aop (std P n₀) tab (.mapUpdate t x k v) s K E) (hg : Goes ρ s a w o.dst K next) : o.wp P a w next Q := by
  have hx := ev_val hs x
  have hk := ev_val hs k
  have hv0 := ev_val hs v
  simp only [aop] at h
  unfold muA at h
  split at h
  case h_2 => exact h.elim
  rename_i kt et hmk
  have hu := map_und ht hmk
  split at h
  · exact h.elim
  rename_i hkt
  split at h
  · exact h.elim
  rename_i hko
  have hlv := key_ne hkt
  split at h
  case h_2 => exact h.elim
  rename_i id e
  rw [e] at hx
  obtain ⟨_, hxv⟩ := val_mp hx
  rw [nth_eq] at h
  split at h
  case h_2 => exact h.elim
  rename_i es hes
  obtain ⟨ms, c, hb, hall, hborn, hnd⟩ := hs.rel.ents _ _ hes
  split at h
  case h_2 => exact h.elim
  rename_i ys hfr
  have hv := unc_val hfr hv0
  have hk0 := key_free hko hk
  obtain ⟨hmok, h⟩ := h
  have hc := check_key (w := w) (e := false) ht hkt hko hk
  have hgm := run_getMap (P := P) hb
  obtain ⟨i, d, zz, hty⟩ := ht.of (t := kt) (fun e => by rw [e] at hlv; simp [Ty.no] at hlv)
  rcases find_all (w := w) (P := P) ht hs.rel.gok hlv hko hk0 hall hmok with ⟨f1, f2, f3, _⟩ | ⟨j, y, m, g1, g2, g3, g4, g5, g6, _⟩
  · have hf := run_findKey_asking hty.und (f2 0)
    have hset := MapKept.run_setObj_map (P := P) (.map (ms.toArray.push { key := a.eval k, val := a.eval v, born := c }) (c + 1)) hb
    obtain ⟨b1, b2⟩ := map_born (k := a.eval k) (v := a.eval v) hborn hnd
    have hr := rel_map hs.rel (es' := mput es (s.ev k) (unc (s.ev v) ys)) (c' := c + 1) hes hb (by rw [f3]; exact hall.append ⟨⟨hk0, hv⟩, trivial⟩) b1 b2
    have hpush : ms.toArray.push { key := a.eval k, val := a.eval v, born := c } = (ms ++ [({ key := a.eval k, val := a.eval v, born := c } : MapEntry)]).toArray := by simp
    rw [← hpush] at hr
    refine wp_skip' (w' := w.putObj (ρ.b id) _) ?_ (hg.go .junk undef ρ _ _ h Val.junk hr.1 hr.2)
    simp only [execOp, ho, hxv, Instr.mapUpdate, Sem.run_bind, run_underlying hu, Result.andThen_ok, hgm, hc, hf, hset, Sem.run_pure]
    rfl
  · have hf := run_findKey_asking hty.und (g5 0)
    obtain ⟨m', hm', hkv, _⟩ := hall.get g1
    rw [g2] at hm'; simp at hm'; subst hm'
    have hky := key_same (P := P) hlv hko (hmok _ (List.mem_of_getElem? g1)) g3 hk0 hkv
    have hset := MapKept.run_setObj_map (P := P) (.map (ms.toArray.modify j fun e => { e with key := a.eval k, val := a.eval v }) c) hb
    have hmod : ms.toArray.modify j (fun e => { e with key := a.eval k, val := a.eval v }) = (ms.set j { m with key := a.eval k, val := a.eval v }).toArray := by
      apply Array.ext_getElem?
      intro q
      simp only [Array.getElem?_modify, List.getElem?_toArray, List.getElem?_set]
      by_cases e : j = q
      · subst e
        have hm := (List.getElem?_eq_some_iff.1 g2).2
        simp [lt_of_get g2, hm]
      · simp [e]
    rw [hmod] at hset
    obtain ⟨b1, b2⟩ := map_set (m' := { m with key := a.eval k, val := a.eval v }) g2 rfl hborn hnd
    have hr := rel_map hs.rel (es' := mput es (s.ev k) (unc (s.ev v) ys)) (c' := c) hes hb (by rw [g6, ← setN_eq]; exact hall.set j ⟨hk0, hv⟩) b1 b2
    refine wp_skip' (w' := w.putObj (ρ.b id) _) ?_ (hg.go .junk undef ρ _ _ h Val.junk hr.1 hr.2)
    have hkj : ((ms.toArray[j]?).map (·.key)).getD (a.eval k) = m.key := by simp [g2]
    simp only [execOp, ho, hxv, Instr.mapUpdate, Sem.run_bind, run_underlying hu, Result.andThen_ok, hgm, hc, hf, Nat.zero_add, hkj, hky, hmod, hset, Sem.run_pure]
    rfl
theorem sound_delete (ht : TabOk P tab) {args : Array Operand} {ts : Array TypeId} (ho : o.op = .call ⟨.builtin .delete, args, ts⟩) (hs : RelS ρ s a w) (h : aop (std P n₀) tab (.call ⟨.builtin .delete, args, ts⟩) s K E) (hg : Goes ρ s a w o.dst K next) : o.wp P a w next Q := by
  have hv := evs_val hs args.toList
  have hmap : args.map a.eval = (args.toList.map a.eval).toArray := by apply Array.ext'; simp
  simp only [aop] at h
  generalize hxs : evs s args.toList = xs at h hv
  generalize hus : args.toList.map a.eval = us at hv hmap
  split at h
  case h_2 => exact h.elim
  rename_i x k
  split at h
  case h_2 => exact h.elim
  rename_i t l hts
  match us, hv with
  | [vx, vk], ⟨hx, hk, _⟩ =>
  have hts' : ts = (t :: l).toArray := by apply Array.ext'; simpa using hts
  unfold dlA at h
  split at h
  case h_2 => exact h.elim
  rename_i kt et hmk
  have hu := map_und ht hmk
  split at h
  · exact h.elim
  rename_i hkt
  split at h
  · exact h.elim
  rename_i hko
  have hlv := key_ne hkt
  split at h
  case h_2 => exact h.elim
  rename_i id
  obtain ⟨_, hxv⟩ := val_mp hx
  subst hxv
  rw [nth_eq] at h
  split at h
  case h_2 => exact h.elim
  rename_i es hes
  obtain ⟨ms, c, hb, hall, hborn, hnd⟩ := hs.rel.ents _ _ hes
  obtain ⟨hmok, h⟩ := h
  have hc := check_key (w := w) (e := ms.toArray.isEmpty) ht hkt hko hk
  have hgm := run_getMap (P := P) hb
  obtain ⟨i, d, zz, hty⟩ := ht.of (t := kt) (fun e => by rw [e] at hlv; simp [Ty.no] at hlv)
  have fin : ∀ {ms' : List MapEntry} {w' : World}, (Builtin.delete_ (t :: l).toArray o.type #[.map (some (ρ.b id)), vk]).run P w = .ok (.tuple #[]) w' → Stp ρ s.hp w ρ (setN s.hp id (.mp (mdel es k))) w' → Rel ρ (setN s.hp id (.mp (mdel es k))) w' → o.wp P a w next Q := by
    intro ms' w' hr h1 h2
    exact wp_value (run_bi (f := Builtin.delete_ ts o.type #[.map (some (ρ.b id)), vk]) ho hmap (fun cs => rfl) (by rw [hts']; exact hr)) (hg.go .junk _ ρ _ _ h Val.junk h1 h2)
  rcases find_all (w := w) (P := P) ht hs.rel.gok hlv hko (key_free hko hk) hall hmok with ⟨f1, f2, _, f4⟩ | ⟨j, y, m, g1, g2, g3, g4, g5, _, g7⟩
  · have hf := run_findKey_asking hty.und (f2 0)
    have hset := MapKept.run_setObj_map (P := P) (.map ms.toArray c) hb
    have hr := rel_map hs.rel (es' := mdel es k) (c' := c) hes hb (by rw [f4]; exact hall) hborn hnd
    refine fin (ms' := ms) (w' := w.putObj (ρ.b id) (.map ms.toArray c)) ?_ hr.1 hr.2
    simp only [Builtin.delete_]
    have e0 : ((t :: l).toArray[0]?) = some t := by simp
    simp only [e0]
    simp only [Sem.run_bind, run_underlying hu, Result.andThen_ok, hgm, hc, hf, hset, Sem.run_pure, List.getElem?_toArray, List.getElem?_cons_zero, List.getElem?_cons_succ]
    rfl
  · have hf := run_findKey_asking hty.und (g5 0)
    have hset := MapKept.run_setObj_map (P := P) (.map (ms.toArray.eraseIdxIfInBounds j) c) hb
    have her : ms.toArray.eraseIdxIfInBounds j = (ms.eraseIdx j).toArray := by
      have := lt_of_get g2
      simp [Array.eraseIdxIfInBounds, this]
    rw [her] at hset
    have hsub := List.eraseIdx_sublist ms j
    have her2 : ∀ {α β : Type} {R : α → β → Prop} {l : List α} {m : List β} (j : Nat), All2 R l m → All2 R (l.eraseIdx j) (m.eraseIdx j) := by
      intro α β R l
      induction l with
      | nil => intro m j h; cases m <;> simp [All2] at h ⊢
      | cons x l ih =>
        intro m j h
        cases m with
        | nil => exact h.elim
        | cons y m =>
          cases j with
          | zero => exact h.2
          | succ j => exact ⟨h.1, ih j h.2⟩
    have hr := rel_map hs.rel (es' := mdel es k) (c' := c) hes hb (by rw [g7]; exact her2 j hall) (fun m hm => hborn m (hsub.subset hm)) ((hsub.map _).nodup hnd)
    refine fin (ms' := ms.eraseIdx j) (w' := w.putObj (ρ.b id) (.map (ms.eraseIdx j).toArray c)) ?_ hr.1 hr.2
    simp only [Nat.zero_add] at hf
    simp only [Builtin.delete_]
    have e0 : ((t :: l).toArray[0]?) = some t := by simp
    simp only [e0]
    simp only [Sem.run_bind, run_underlying hu, Result.andThen_ok, hgm, hc, hf, her, hset, Sem.run_pure, List.getElem?_toArray, List.getElem?_cons_zero, List.getElem?_cons_succ]
    rfl
theorem sound_clear (ht : TabOk P tab) {args : Array Operand} {ts : Array TypeId} (ho : o.op = .call ⟨.builtin .clear, args, ts⟩) (hs : RelS ρ s a w) (h : aop (std P n₀) tab (.call ⟨.builtin .clear, args, ts⟩) s K E) (hg : Goes ρ s a w o.dst K next) : o.wp P a w next Q := by
  have hv := evs_val hs args.toList
  have hmap : args.map a.eval = (args.toList.map a.eval).toArray := by apply Array.ext'; simp
  simp only [aop] at h
  generalize hxs : evs s args.toList = xs at h hv
  generalize hus : args.toList.map a.eval = us at hv hmap
  split at h
  case h_2 => exact h.elim
  rename_i x
  split at h
  case h_2 => exact h.elim
  rename_i t tl hts
  match us, hv with
  | [vx], ⟨hx, _⟩ =>
  have hts' : ts = (t :: tl).toArray := by apply Array.ext'; simpa using hts
  unfold clA at h
  split at h
  case h_3 => exact h.elim
  case h_2 =>
    rename_i e hmk
    have hu := und_slice ht hmk
    split at h
    · exact h.elim
    rename_i zv hz
    split at h
    case h_2 => exact h.elim
    rename_i hsp
    have hsp' : 0 < (tab e).size := by simpa [ltN_eq] using hsp
    split at h
    case h_2 => exact h.elim
    rename_i id z lo n N
    split at h
    case h_2 => exact h.elim
    rename_i hzz
    have hzz' := beN_t hzz
    subst hzz'
    split at h
    case h_2 => exact h.elim
    rename_i z' xs hid
    split at h
    case h_2 => exact h.elim
    rename_i hzz'
    have hzz'' := beN_t hzz'
    subst hzz''
    obtain ⟨p1, p2, p3, h⟩ := h
    replace p3 : lo + n ≤ (xs.length : Nat) := p3
    rw [nth_eq] at hid
    have hent := hs.rel.ents id _ hid
    have hent' := hent
    obtain ⟨hpos, hfit, hblk, hel⟩ := hent'
    obtain ⟨hidl, ad, len, cap, rfl, rfl, hcap, hadr, hloc⟩ := val_vs hx
    obtain ⟨l, rfl, hN, ha⟩ := hloc
    replace ha := ha hpos
    replace h : K .junk (setN s.hp id (.vec (tab e).size (xs.take (l : Int).toNat ++ List.replicate (len : Int).toNat zv ++ xs.drop ((l : Int).toNat + (List.replicate (len : Int).toNat zv).length)))) := h
    rw [Int.toNat_natCast, Int.toNat_natCast] at h
    obtain ⟨i, d, zz, hty, hzv, hone⟩ := zeroV_val (w := w) (S := Stay ρ s.hp) (ρ := ρ) (n := 0) ht hz
    have hzl : zz.cells.toList.length = (tab e).size := by rw [← hty.zsize]; simp
    obtain ⟨hzc, hz1⟩ := hzv.cells hone
    have hle : (ρ.t id).start + (l + len) * (tab e).size ≤ (ρ.t id).stop := by
      have := Nat.mul_le_mul_right (tab e).size (show l + len ≤ xs.length by omega); omega
    have hnews : ∀ u ∈ repl len zz.cells.toList, u.oneCell' = true := by
      intro u hu
      obtain ⟨q, hq⟩ := List.mem_iff_getElem?.1 hu
      have hlt := lt_of_get hq
      rw [repl_length] at hlt
      rw [repl_get _ _ _ hlt] at hq
      exact hz1 u (List.mem_of_getElem? hq)
    have hst := rel_lay hs.rel (ys := List.replicate len zv) (p := l) (news := repl len zz.cells.toList) hid (by omega) (by simpa using hle) (by simp [repl_length, hzl]) hnews (fun j x hx' => by
      rw [List.getElem?_replicate] at hx'
      split at hx'
      case isFalse => simp at hx'
      rename_i hj
      simp at hx'; subst hx'
      refine ⟨_, hzc, hzl, fun q v hv => ?_⟩
      have hq := lt_of_get hv
      have hlt : j * (tab e).size + q < len * zz.cells.toList.length := by rw [hzl]; exact el_lt hj (by rw [← hzl]; exact hq)
      rw [repl_get _ _ _ hlt, hzl, Nat.mul_comm, Nat.mul_add_mod, Nat.mod_eq_of_lt (by rw [← hzl]; exact hq)]
      exact hv)
    have hrun : (Builtin.clear_ #[t] o.type #[.slice ad len cap]).run P w = .ok (.tuple #[]) (w.setCells (ρ.t id).blk ((ρ.t id).start + l * (tab e).size) (repl len zz.cells.toList)) := by
      by_cases hl0 : len = 0
      · subst hl0
        simp only [repl, World.setCells]
        cases ad <;> simp [Builtin.clear_, run_underlying hu]
      · obtain ⟨rfl, _⟩ := ha (by omega)
        have hcc := vec_cells hent (q := (ρ.t id).start + l * (tab e).size) (k := (repl len zz.cells.toList).length) (by omega) (by rw [repl_length, hzl]; rw [Nat.add_mul] at hle; omega)
        have h1 := run_storeCells_cells (P := P) (ρ.t id).blk ((ρ.t id).start + l * (tab e).size) (repl len zz.cells.toList) 0 w (fun j hj => by rw [Nat.add_zero]; exact (hcc j hj).1) (fun j hj => by rw [Nat.add_zero]; exact (hcc j hj).2) hnews
        rw [Nat.add_zero] at h1
        have h2 : (Builtin.zeroCells zz.cells len).toList = repl len zz.cells.toList := by
          have := zeros_repl zz.cells len (len * zz.cells.size) rfl
          rw [Builtin.zeroCells, this]
        obtain ⟨k, rfl⟩ : ∃ k, len = k + 1 := ⟨len - 1, by omega⟩
        simp [Builtin.clear_, run_underlying hu, run_zero hty, h2, h1]
    refine wp_value (v := .tuple #[]) (run_bi (f := Builtin.clear_ ts o.type #[.slice ad len cap]) ho hmap (fun cs => rfl) ?_) (hg.go .junk _ ρ _ _ h Val.junk hst.1 hst.2)
    rw [hts']
    have e1 : Builtin.clear_ (t :: tl).toArray o.type #[.slice ad len cap] = Builtin.clear_ #[t] o.type #[.slice ad len cap] := by simp [Builtin.clear_]
    rw [e1]; exact hrun
  rename_i kt et hmk
  have hu := map_und ht hmk
  split at h
  case h_2 => exact h.elim
  rename_i id
  obtain ⟨_, hxv⟩ := val_mp hx
  subst hxv
  rw [nth_eq] at h
  split at h
  case h_2 => exact h.elim
  rename_i es hes
  obtain ⟨ms, c, hb, hall, hborn, hnd⟩ := hs.rel.ents _ _ hes
  have hgm := run_getMap (P := P) hb
  have hset := MapKept.run_setObj_map (P := P) (.map #[] c) hb
  have hr := rel_map hs.rel (es' := []) (ms' := []) (c' := c) hes hb trivial (by simp) (by simp)
  refine wp_value (v := .tuple #[]) (w' := w.putObj (ρ.b id) (.map #[] c)) (run_bi (f := Builtin.clear_ ts o.type #[.map (some (ρ.b id))]) ho hmap (fun cs => rfl) ?_) (hg.go .junk _ ρ _ _ h Val.junk hr.1 hr.2)
  rw [hts']
  simp [Builtin.clear_, Sem.run_bind, run_underlying hu, Result.andThen_ok, hgm, hset]
  rfl
end
end Go.Pt
namespace Go.Pt
open Go
section
variable {P : Program} {n₀ : Nat} {tab : Nat → Ty} {w : World} {ρ : Ro} {s : St} {a : Act} {o : Oper} {K E : AV → List Ent → Prop} {next : Act → World → Prop} {Q : Exit → Act → World → Prop}
theorem rowsIn_of_rows {r : Option Nat} {n : Nat} {row : String} {args : Array Value} {R : Value → World → Prop} (h : Rows P row args w R) : RowsIn (fen r) n P row args w R :=
  fun c cs _ => let ⟨v, w', hr, hs⟩ := h c cs; ⟨v, w', hr, stepsIn_wide.2 hs⟩
theorem callsIn_fen {r : Option Nat} {n : Nat} {f : FuncId} {args : Array Value} {R : Ending → World → Prop} (h : Calls P f args w R) : CallsIn (fen r) n P f args w R := (callsIn_wide (n := n)).2 h
theorem wpIn_of_wp {r : Option Nat} (hd : ∀ c, o.op ≠ .defer c) (h : o.wp P a w next Q) : o.wpIn (fen r) 0 P a w next Q := by
  refine ⟨fun _ _ => trivial, ?_⟩
  rw [Oper.semAt_eq _ _ _ hd]
  unfold Oper.wp at h
  generalize (execOp a.eval o).run P w = q at h
  cases q with
  | ok x w' =>
    cases x <;> simp only [Oper.upon] at h <;> simp only [Oper.uponIn] <;> first
      | exact h
      | exact ⟨fun hn => by simp [Fence.wide] at hn, callsIn_fen h⟩
      | exact ⟨fun hn => by simp [Fence.wide] at hn, rowsIn_of_rows h⟩
      | exact h.elim
  | halt x w' => cases x <;> simp only [Oper.upon] at h <;> simp only [Oper.uponIn] <;> first | exact h | exact h.elim
theorem sound_call {r : Option Nat} {f : Operand} {args : Array Operand} {ts : Array TypeId} (ho : o.op = .call ⟨.value f, args, ts⟩) (hs : RelS ρ s a w) (h : aop (std P n₀) tab (.call ⟨.value f, args, ts⟩) s K E) (hg : Goes ρ s a w o.dst K next) (hd : Dies ρ s a w E Q) : o.wpIn (fen r) 0 P a w next Q := by
  have hf := ev_val hs f
  simp only [aop] at h
  split at h
  · rename_i g caps e
    refine wpIn_of_wp (fun c => by rw [ho]; simp) ?_
    rw [e] at hf
    obtain ⟨cs, hfv, hcs⟩ := val_func hf
    obtain ⟨⟨fn, c, hfn, hbody, hname⟩, hcall⟩ := h
    have hc := hcall ρ w (args.toList.map a.eval ++ cs) hs.rel ((evs_val hs args.toList).append hcs)
    have hrun : (execOp a.eval o).run P w = .ok (.enter g (args.toList.map a.eval ++ cs).toArray) w := by
      have hmap : args.map a.eval ++ cs.toArray = (args.toList.map a.eval ++ cs).toArray := by apply Array.ext'; simp
      simp only [execOp, ho, resolve, hfv, Deferred.ofValue, Sem.run_bind, Sem.run_pure, Result.andThen_ok, invoke, callFunc, run_program, hfn, hname, hbody, Option.isNone_some, Bool.false_eq_true, if_false, Array.empty_append, hmap]
    unfold Oper.wp
    rw [hrun]
    refine hc.mono ?_
    rintro en w' ⟨ρ', σ', hst, hrel, hen⟩
    cases en with
    | returned v => obtain ⟨r, hk, hv⟩ := hen; exact hg.go r v ρ' σ' w' hk hv hst hrel
    | panicked ch => obtain ⟨r, v, rfl, hk, hv⟩ := hen; exact hd.die r v ρ' σ' w' hk hv hst hrel
    | outgrown => exact hen.elim
  · rename_i i e
    rw [e] at hf
    obtain ⟨_, hfv⟩ := val_yld hf
    obtain ⟨fn, tmps, asg, body, hy, hround⟩ := h ρ w (args.toList.map a.eval) hs.rel (evs_val hs args.toList)
    have hrun : (execOp a.eval o).run P w = .ok (.round (ρ.b i) fn tmps asg body) w := by
      have hmap : args.map a.eval = (args.toList.map a.eval).toArray := by apply Array.ext'; simp
      simp only [execOp, ho, resolve, hfv, Deferred.ofValue, Sem.run_bind, Sem.run_pure, Result.andThen_ok, invoke, Array.empty_append, hmap, hy]
    refine ⟨fun _ _ => trivial, ?_⟩
    rw [Oper.semAt_eq _ _ _ (fun c => by rw [ho]; simp), hrun]
    refine ⟨fun hn => by simp [Fence.wide] at hn, ?_⟩
    have hround' : RoundIn (fen r) 0 P (ρ.b i) fn tmps asg body w _ := hround
    refine hround'.mono ?_
    rintro en w' ⟨ρ', σ', hst, hrel, hen⟩
    cases en with
    | returned v => obtain ⟨r, hk, hv⟩ := hen; exact hg.go r v ρ' σ' w' hk hv hst hrel
    | panicked ch => exact hen.elim
    | outgrown => exact hen.elim
  · exact h.elim
theorem aop_sound {r : Option Nat} (ht : TabOk P tab) (hs : RelS ρ s a w) (h : aop (std P n₀) tab o.op s K E) (hg : Goes ρ s a w o.dst K next) (hd : Dies ρ s a w E Q) : o.wpIn (fen r) 0 P a w next Q := by
  by_cases hc : ∃ f args ts, o.op = .call ⟨.value f, args, ts⟩
  · obtain ⟨f, args, ts, ho⟩ := hc
    rw [ho] at h
    exact sound_call ho hs h hg hd
  refine wpIn_of_wp (fun c e => by rw [e] at h; exact h.elim) ?_
  cases ho : o.op <;> rw [ho] at h
  case move x => exact sound_move (.inl ho) hs h hg
  case assign x => exact sound_move (.inr ho) hs h hg
  case pick => exact sound_pick ho hs h hg
  case alloc => exact sound_alloc ht ho hs h hg
  case box => exact sound_box ho hs h hg
  case build => exact sound_build ht ho hs h hg
  case buildSlice => exact sound_buildSlice ht ho hs h hg
  case load => exact sound_load ht ho hs h hg
  case store => exact sound_store ht ho hs h hg
  case nilCheck => exact sound_nilCheck ho hs h hg
  case binOp => exact sound_binOp ht ho hs h hg
  case unOp => exact sound_unOp ho hs h hg
  case convert => exact sound_convert ht ho hs h hg
  case makeFunc => exact sound_makeFunc ho hs h hg
  case makeMap => exact sound_makeMap ho hs h hg
  case makeSlice => exact sound_makeSlice ht ho hs h hg
  case fieldAddr => exact sound_fieldAddr ht ho hs h hg
  case field => exact sound_field ht ho hs h hg
  case indexAddr => exact sound_indexAddr ht ho hs h hg
  case index => exact sound_index ht ho hs h hg
  case extract => exact sound_extract ho hs h hg
  case slice => exact sound_slice ht ho hs h hg
  case lookup => exact sound_lookup ht ho hs h hg
  case mapUpdate => exact sound_mapUpdate ht ho hs h hg
  case call c =>
    obtain ⟨callee, args, ts⟩ := c
    cases callee with
    | value f => exact absurd ⟨f, args, ts, ho⟩ hc
    | builtin b =>
      by_cases hd : b = .delete
      · subst hd; exact sound_delete ht ho hs h hg
      by_cases hc : b = .clear
      · subst hc; exact sound_clear ht ho hs h hg
      refine sound_bi (n₀ := n₀) ht ho hs ?_ hg
      simp only [aop] at h
      cases b <;> first | exact absurd rfl hd | exact absurd rfl hc | exact h
    | invoke _ _ => exact h.elim
  all_goals exact h.elim
end
end Go.Pt
namespace Go.Pt
open Go
section
variable {P : Program} {n₀ : Nat} {tab : Nat → Ty} {w : World} {ρ : Ro} {s : St} {a : Act} {Q : Exit → Act → World → Prop}
theorem RelS.cons (h : RelS ρ s a w) {t : Nat} {v : AV} (hv : Val w (Stay ρ s.hp) ρ s.hp.length v (a.tmps.getD t undef)) : RelS ρ ⟨(t, v) :: s.env, s.hp, s.n⟩ a w := by
  refine ⟨h.defers, h.size, h.rel, fun u => ?_⟩
  simp only [look]
  split
  · rename_i e
    rw [← beN_t e]; exact hv
  · exact h.vals u
theorem strip_sound {g : Bool} : ∀ {l : List Operand} {s : St} {K : St → Prop}, strip g l s K → ∃ s', K s' ∧ s'.hp = s.hp ∧ s'.n = s.n ∧ (g = true → RelS ρ s a w → RelS ρ s' a w)
  | [], s, K, h => ⟨s, h, rfl, rfl, fun _ h => h⟩
  | .tmp t :: r, s, K, h => by
    simp only [strip] at h
    split at h
    · rename_i g' v e
      obtain ⟨s', h1, h2, h3, h4⟩ := strip_sound h.2
      refine ⟨s', h1, h2, h3, fun hg hr => h4 hg (hr.cons ?_)⟩
      have := hr.vals t
      rw [e] at this
      exact (val_cond this).1 (h.1 hg)
    · exact strip_sound h
  | .const _ :: r, s, K, h => strip_sound (l := r) h
  | .global _ :: r, s, K, h => strip_sound (l := r) h
  | .func _ :: r, s, K, h => strip_sound (l := r) h
theorem put_rel (h : RelS ρ s a w) {d : Option Nat} (hf : fits d s.n = true) {v : AV} {u : Value} {ρ' : Ro} {σ' : List Ent} {w' : World} (hv : Val w' (Stay ρ' σ') ρ' σ'.length v u) (hst : Stp ρ s.hp w ρ' σ' w') (hr : Rel ρ' σ' w') :
    RelS ρ' (s.put d v σ') (a.put d u) w' := by
  have old : ∀ t, Val w' (Stay ρ' σ') ρ' σ'.length (look s.env t) (a.tmps.getD t undef) := fun t => (h.vals t).step hst
  have hdef : Marks ρ'.m w' a.defers := by rw [hst.rm]; exact h.defers.step h.rel hst
  cases d with
  | none => exact ⟨hdef, h.size, hr, old⟩
  | some d =>
    have hlt : d < a.tmps.size := by rw [h.size]; simpa [fits, ltN_eq] using hf
    refine ⟨hdef, by simp [Act.put, St.put, h.size], hr, fun t => ?_⟩
    simp only [St.put, Act.put, look]
    split
    · rename_i e
      have := beN_t e; subst this
      simp [Array.getD, hlt]; exact hv
    · rename_i e
      have hne : d ≠ t := fun he => by subst he; simp at e
      have : (a.tmps.setIfInBounds d u).getD t undef = a.tmps.getD t undef := by
        simp [Array.getD_eq_getD_getElem?, hne]
      rw [this]; exact old t
theorem undef_val {S : Nat → Nat → Prop} {n : Nat} {v : AV} : Val w S ρ n (.cond false v) undef := ⟨1, by simp, fun _ => rfl⟩
theorem dumb_val {tab : Nat → Ty} {q : Oper} {w : World} {S : Nat → Nat → Prop} {ρ : Ro} {n : Nat} : Val w S ρ n (dumb tab q) undef := by
  unfold dumb
  split
  · exact undef_val
  · exact Val.junk
theorem cond_val {S : Nat → Nat → Prop} {n : Nat} {g : Bool} {v : AV} {u : Value} (h : Val w S ρ n v u) (hg : g = true) : Val w S ρ n (.cond g v) u := by
  obtain ⟨d, h⟩ := h
  exact ⟨d + 1, fun _ => h, fun e => by rw [hg] at e; simp at e⟩
theorem quiet_some {op : Op} (hq : quietOp op = true) {s : St} {K E : AV → List Ent → Prop} {g : Bool} (h : aopG (std P n₀) tab g op s K E) : ∃ v, K v s.hp := by
  cases op <;> simp only [quietOp, Bool.false_eq_true] at hq <;> simp only [aopG, aop] at h
  case move => exact ⟨_, h⟩
  case assign => exact ⟨_, h⟩
  case load =>
    split at h
    · split at h
      · split at h
        · exact ⟨_, h⟩
        · exact h.elim
      · exact h.elim
    · split at h
      · exact ⟨_, h⟩
      · exact h.elim
    · rename_i i _ _
      split at h
      case h_2 => exact h.elim
      rename_i xs _
      split at h
      case h_2 => exact h.elim
      obtain ⟨hin, h⟩ := h
      have hin : 0 ≤ i ∧ i < (xs.length : Int) := hin
      have h := h _ (List.getElem?_eq_getElem (by omega))
      simp only at h
      split at h
      · exact ⟨_, h⟩
      · exact h.elim
    · rename_i f i _ _
      split at h
      case h_2 => exact h.elim
      rename_i xs _
      obtain ⟨hin, h⟩ := h
      have hin : 0 ≤ i ∧ i < (xs.length : Int) := hin
      have h := h _ (List.getElem?_eq_getElem (by omega))
      simp only at h
      split at h
      · exact ⟨_, h⟩
      · exact h.elim
    · exact h.elim
  case unOp =>
    repeat' (first | exact ⟨_, h⟩ | exact h.elim | split at h)
  case fieldAddr =>
    repeat' (first | exact ⟨_, h⟩ | exact h.elim | exact ⟨_, h.2⟩ | split at h)
  case field =>
    repeat' (first | exact ⟨_, h⟩ | exact h.elim | split at h)
  case extract =>
    repeat' (first | exact ⟨_, h⟩ | exact h.elim | split at h)
  case nilCheck =>
    repeat' (first | exact ⟨_, h⟩ | exact h.elim | exact ⟨_, h.2⟩ | split at h)
  case call c =>
    obtain ⟨callee, args, ts⟩ := c
    cases callee <;> simp only [Bool.false_eq_true] at hq
    rename_i b
    cases b <;> simp only [Bool.false_eq_true] at hq
    simp only [bi, lenA] at h
    repeat' (first | exact ⟨_, h⟩ | exact h.elim | split at h)
  case binOp p t x y t' =>
    replace h := binB_A h
    unfold binA at h
    have ar : ∀ {q : BinOp}, arA (std P n₀) q (s.ev x) (s.ev y) (fun v => K v s.hp) → ∃ v, K v s.hp := by
      intro q h
      unfold arA at h
      repeat' (first | exact ⟨_, h⟩ | exact ⟨_, h.2⟩ | exact h.elim | split at h)
    have cp : ∀ {q : BinOp}, cpA (std P n₀) q (s.ev x) (s.ev y) (fun v => K v s.hp) → ∃ v, K v s.hp := by
      intro q h
      unfold cpA at h
      repeat' (first | exact ⟨_, h⟩ | exact h.elim | split at h)
    have eq : ∀ {n : Bool}, eqA (std P n₀) (tab t) n (s.ev x) (s.ev y) (fun v => K v s.hp) → ∃ v, K v s.hp := by
      intro n h
      unfold eqA at h
      repeat' (first | exact ⟨_, h⟩ | exact ⟨_, h.2 n (fun _ => rfl)⟩ | exact h.elim | split at h)
    cases p <;> simp only [Bool.false_eq_true] at hq h <;> first | exact ar h | exact cp h | exact eq h
  case pick =>
    have u : ∀ {g : Bool} {a : AV} {K : AV → Prop}, under g a K → ∃ v, K v := by
      intro g a K h
      unfold under at h
      split at h
      · exact ⟨_, h.2⟩
      · exact ⟨_, h⟩
    split at h
    · exact u h
    · exact u h
    · obtain ⟨_, h⟩ := u h
      obtain ⟨_, h⟩ := u h
      repeat' (first | exact ⟨_, h⟩ | exact h.elim | split at h)
    · exact h.elim
theorem aopG_aop {op : Op} {s : St} {K E : AV → List Ent → Prop} {g : Bool} (h : aopG (std P n₀) tab g op s K E) (hg : g = true) : aop (std P n₀) tab op s K E := by
  subst hg
  cases op <;> first | exact h | skip
  all_goals
    simp only [aopG] at h
    split at h
    · exact absurd h.1 (by simp)
    · exact h
theorem yield_of {ops : Array Oper} {s : St} (_hs : RelS ρ s a w) {j d : Nat} (hd : (nth ops.toList j).bind (·.dst) = some d) :
    (∀ t : Bool, Val w (Stay ρ s.hp) ρ s.hp.length (.bool t) (a.tmps.getD d undef) → yielded ops a.tmps j = some t) ∧ (a.tmps.getD d undef = undef → yielded ops a.tmps j = none) := by
  have hdst : (ops[j]?).bind (·.dst) = some d := by rw [nth_eq] at hd; simpa using hd
  constructor
  · intro t ht
    have hv := val_bool ht
    unfold yielded
    rw [hdst]
    have : a.tmps[d]? = some (.bool t) := by
      rw [Array.getD_eq_getD_getElem?] at hv
      cases he : a.tmps[d]? with
      | none => rw [he] at hv; simp [undef] at hv
      | some x => rw [he] at hv; simp at hv; rw [hv]
    simp [this]
  · intro hv
    unfold yielded
    rw [hdst]
    rw [Array.getD_eq_getD_getElem?] at hv
    cases he : a.tmps[d]? with
    | none => simp [he]
    | some x => rw [he] at hv; simp at hv; subst hv; simp [he, undef]
structure Ends (ρ : Ro) (s : St) (a : Act) (w : World) (K : St → Prop) (E : AV → List Ent → Prop) (Q : Exit → Act → World → Prop) : Prop where
  fin : ∀ s' ρ' a' w', K s' → s'.n = s.n → RelS ρ' s' a' w' → Stp ρ s.hp w ρ' s'.hp w' → Q .normal a' w'
  die : ∀ x v ρ' σ' w' a', E x σ' → Val w' (Stay ρ' σ') ρ' σ'.length x v → Stp ρ s.hp w ρ' σ' w' → Rel ρ' σ' w' → a'.tmps.size = s.n → Marks ρ'.m w' a'.defers → Q (.panic [{ v, recovered := false }]) a' w'
theorem Ends.next {K : St → Prop} {E : AV → List Ent → Prop} (h : Ends ρ s a w K E Q) {ρ' : Ro} {s' : St} {a' : Act} {w' : World} (hn : s'.n = s.n) (hst : Stp ρ s.hp w ρ' s'.hp w') : Ends ρ' s' a' w' K E Q :=
  ⟨fun s'' ρ'' a'' w'' hk hn' hr hst' => h.fin s'' ρ'' a'' w'' hk (hn'.trans hn) hr (StpN.trans' hst hst'),
   fun x v ρ'' σ'' w'' a'' he hv hst' hr hsz hdf => h.die x v ρ'' σ'' w'' a'' he hv (StpN.trans' hst hst') hr (hsz.trans hn) hdf⟩
theorem aops_step {rd : Option Nat} (ht : TabOk P tab) {ops : Array Oper} {q : Oper} {r : List Oper} {i : Nat} (hq : ops[i]? = some q) {K : St → Prop} {E : AV → List Ent → Prop} {next : Act → World → Prop} (h : aops (std P n₀) tab ops.toList (q :: r) s K E) (hs : RelS ρ s a w)
    (hnext : ∀ s' ρ' a' w', aops (std P n₀) tab ops.toList r s' K E → s'.n = s.n → RelS ρ' s' a' w' → Stp ρ s.hp w ρ' s'.hp w' → next a' w')
    (hdie : ∀ x v ρ' σ' w', E x σ' → Val w' (Stay ρ' σ') ρ' σ'.length x v → Stp ρ s.hp w ρ' σ' w' → Rel ρ' σ' w' → Q (.panic [{ v, recovered := false }]) a w') : wpOpIn (fen rd) 0 P ops Q i next a w := by
    unfold wpOpIn
    simp only [hq]
    have doit : ∀ {s1 : St} {d' : List (Nat × AV)}, s1.hp = s.hp → s1.n = s.n → RelS ρ s1 a w → RelS ρ ⟨d', s.hp, s.n⟩ a w → fits q.dst s.n = true →
        ∀ {f : AV → AV}, (∀ {n : Nat} {S : Nat → Nat → Prop} {ρ' : Ro} {w' : World} {v : AV} {u : Value}, Val w' S ρ' n v u → Val w' S ρ' n (f v) u) →
        aop (std P n₀) tab q.op s1 (fun v h => aops (std P n₀) tab ops.toList r (St.put ⟨d', s.hp, s.n⟩ q.dst (f v) h) K E) E → q.wpIn (fen rd) 0 P a w next Q := by
      intro s1 d' h1 h2 hr1 hr2 hf f hfv ha
      refine aop_sound ht hr1 ha ⟨fun v u ρ' σ' w' hk hv hst hr => ?_⟩ ⟨fun x v ρ' σ' w' hx hv hst hr => ?_⟩
      · rw [h1] at hst
        have hp := put_rel hr2 (d := q.dst) (by exact hf) (hfv hv) hst hr
        exact hnext _ _ _ _ hk (by cases q.dst <;> rfl) hp (by cases hq : q.dst <;> exact hst)
      · rw [h1] at hst
        exact hdie x v ρ' σ' w' hx hv hst hr
    have skip : ∀ {d' : List (Nat × AV)} {v : AV}, RelS ρ ⟨d', s.hp, s.n⟩ a w → fits q.dst s.n = true → Val w (Stay ρ s.hp) ρ s.hp.length v undef →
        aops (std P n₀) tab ops.toList r (St.put ⟨d', s.hp, s.n⟩ q.dst v s.hp) K E → next (a.put q.dst undef) w := by
      intro d' v hr2 hf hv ha
      have hp := put_rel hr2 (d := q.dst) (by exact hf) hv (Stp.refl _ _ _) hs.rel
      exact hnext _ _ _ _ ha (by cases q.dst <;> rfl) hp (by cases hq : q.dst <;> exact Stp.refl _ _ _)
    have hme : RelS ρ ⟨s.env, s.hp, s.n⟩ a w := hs
    simp only [aops] at h
    split at h
    · exact h.elim
    rename_i hf
    split at h
    ·
      rename_i hg
      have hw : Region.wanted q (yielded ops a.tmps) = true := by simp [Region.wanted, hg]
      rw [if_pos hw]
      obtain ⟨s', h1, h2, h3, h4⟩ := strip_sound h
      exact doit h2 h3 (h4 rfl hs) hme hf (f := id) (fun h => h) h1
    · rename_i j b hg
      split at h
      · exact h.elim
      rename_i d hd
      obtain ⟨hy1, hy2⟩ := yield_of hs hd
      have want : ∀ {t : Bool}, yielded ops a.tmps j = some t → Region.wanted q (yielded ops a.tmps) = (t == b) := by
        intro t e; simp [Region.wanted, hg, e]
      have wantN : yielded ops a.tmps j = none → Region.wanted q (yielded ops a.tmps) = false := by
        intro e; simp [Region.wanted, hg, e]
      have hval := hs.vals d
      have plain : strip true (reads q.op) s (fun s' => aop (std P n₀) tab q.op s' (fun v h => aops (std P n₀) tab ops.toList r (s.put q.dst v h) K E) E) → q.wpIn (fen rd) 0 P a w next Q := by
        intro h
        obtain ⟨s', h1, h2, h3, h4⟩ := strip_sound h
        exact doit h2 h3 (h4 rfl hs) hme hf (f := id) (fun h => h) h1
      split at h
      ·
        rename_i t e
        rw [e] at hval
        have hyt := hy1 t (by rw [val_bl hval]; exact ⟨1, rfl⟩)
        split at h
        · rw [if_pos (by rw [want hyt]; rfl)]; exact plain h
        · rw [if_pos (by rw [want hyt]; rfl)]; exact plain h
        · rename_i h1 h2
          have : (t == b) = false := by cases t <;> cases b <;> simp_all
          rw [if_neg (by rw [want hyt, this]; simp)]
          exact ⟨fun _ _ => trivial, skip hme hf (dumb_val (q := q)) h⟩
      ·
        rename_i t e
        rw [e] at hval
        have hyt := hy1 t hval
        have hgd : gd (std P n₀) t b = (t == b) := by cases t <;> cases b <;> rfl
        split at h
        · rename_i hquiet
          obtain ⟨s', h1, h2, h3, h4⟩ := strip_sound h
          by_cases hg' : (t == b) = true
          · rw [if_pos (by rw [want hyt]; exact hg')]
            refine doit h2 h3 (h4 (by rw [hgd]; exact hg') hs) hme hf (f := fun v => .cond (gd (std P n₀) t b) v) (fun hv => cond_val hv (by rw [hgd]; exact hg')) (aopG_aop h1 (by rw [hgd]; exact hg'))
          · rw [if_neg (by rw [want hyt]; exact hg')]
            obtain ⟨v, hk⟩ := quiet_some hquiet h1
            rw [h2] at hk
            refine ⟨fun _ _ => trivial, skip hme hf (v := .cond (gd (std P n₀) t b) v) ?_ hk⟩
            have : gd (std P n₀) t b = false := by rw [hgd]; simpa using hg'
            rw [this]; exact undef_val
        · obtain ⟨ha, hb⟩ := h
          by_cases hg' : t = b
          · rw [if_pos (by rw [want hyt]; simpa using hg')]
            obtain ⟨s', h1, h2, h3, h4⟩ := strip_sound (ha hg')
            refine doit h2 h3 (h4 rfl hs) (hs.cons (v := .bl b) ?_) hf (f := id) (fun h => h) h1
            rw [← hg', val_bool hval]; exact ⟨1, rfl⟩
          · rw [if_neg (by rw [want hyt]; simpa using hg')]
            have hg'' : t = !b := by cases t <;> cases b <;> simp_all
            refine ⟨fun _ _ => trivial, skip (hs.cons (v := .bl (!b)) ?_) hf Val.junk (hb hg'')⟩
            rw [← hg'', val_bool hval]; exact ⟨1, rfl⟩
      ·
        rename_i g t e
        rw [e] at hval
        obtain ⟨hc1, hc2⟩ := val_cond hval
        have hgd : (std P n₀).o.band g (gd (std P n₀) t b) = (g && (t == b)) := by cases t <;> cases b <;> rfl
        split at h
        · rename_i hquiet
          obtain ⟨s', h1, h2, h3, h4⟩ := strip_sound h
          by_cases hgg : g = true
          · have hyt := hy1 t (hc1 hgg)
            by_cases hg' : (t == b) = true
            · rw [if_pos (by rw [want hyt]; exact hg')]
              have hall : (std P n₀).o.band g (gd (std P n₀) t b) = true := by rw [hgd, hgg, hg']; rfl
              refine doit h2 h3 (h4 hall hs) hme hf (f := fun v => .cond ((std P n₀).o.band g (gd (std P n₀) t b)) v) (fun hv => cond_val hv hall) (aopG_aop h1 hall)
            · rw [if_neg (by rw [want hyt]; exact hg')]
              obtain ⟨v, hk⟩ := quiet_some hquiet h1
              rw [h2] at hk
              refine ⟨fun _ _ => trivial, skip hme hf (v := .cond ((std P n₀).o.band g (gd (std P n₀) t b)) v) ?_ hk⟩
              have : (std P n₀).o.band g (gd (std P n₀) t b) = false := by rw [hgd]; simp at hg'; simp [hg']
              rw [this]; exact undef_val
          · have hgf : g = false := by simpa using hgg
            rw [if_neg (by rw [wantN (hy2 (hc2 hgf))]; simp)]
            obtain ⟨v, hk⟩ := quiet_some hquiet h1
            rw [h2] at hk
            refine ⟨fun _ _ => trivial, skip hme hf (v := .cond ((std P n₀).o.band g (gd (std P n₀) t b)) v) ?_ hk⟩
            have : (std P n₀).o.band g (gd (std P n₀) t b) = false := by rw [hgd, hgf]; rfl
            rw [this]; exact undef_val
        · obtain ⟨ha, hb⟩ := h
          by_cases hgg : g = true
          · have hyt := hy1 t (hc1 hgg)
            by_cases hg' : t = b
            · rw [if_pos (by rw [want hyt]; simpa using hg')]
              obtain ⟨s', h1, h2, h3, h4⟩ := strip_sound (ha hgg hg')
              refine doit h2 h3 (h4 rfl hs) (hs.cons (v := .bl b) ?_) hf (f := id) (fun h => h) h1
              rw [← hg', val_bool (hc1 hgg)]; exact ⟨1, rfl⟩
            · rw [if_neg (by rw [want hyt]; simpa using hg')]
              have hg'' : t = !b := by cases t <;> cases b <;> simp_all
              refine ⟨fun _ _ => trivial, skip (hs.cons (v := .cond g (.bl (!b))) ?_) hf Val.junk (hb (fun _ => hg''))⟩
              refine cond_val ?_ hgg
              rw [← hg'', val_bool (hc1 hgg)]; exact ⟨1, rfl⟩
          · have hgf : g = false := by simpa using hgg
            rw [if_neg (by rw [wantN (hy2 (hc2 hgf))]; simp)]
            refine ⟨fun _ _ => trivial, skip (hs.cons (v := .cond g (.bl (!b))) ?_) hf Val.junk (hb (fun e => by rw [hgf] at e; simp at e))⟩
            rw [hc2 hgf, hgf]; exact undef_val
      ·
        rename_i g t e
        rw [e] at hval
        obtain ⟨hc1, hc2⟩ := val_cond hval
        have hbb : ∀ {S : Nat → Nat → Prop} {n : Nat} {w : World} {v : Value}, Val w S ρ n (.bl t) v → Val w S ρ n (.bool t) v := fun h => by rw [val_bl h]; exact ⟨1, rfl⟩
        split at h
        · rename_i hne
          have hne' : (t == b) = false := by cases t <;> cases b <;> simp_all [same2]
          by_cases hgg : g = true
          · rw [if_neg (by rw [want (hy1 t (hbb (hc1 hgg))), hne']; simp)]
            exact ⟨fun _ _ => trivial, skip hme hf (dumb_val (q := q)) h⟩
          · have hgf : g = false := by simpa using hgg
            rw [if_neg (by rw [wantN (hy2 (hc2 hgf))]; simp)]
            exact ⟨fun _ _ => trivial, skip hme hf (dumb_val (q := q)) h⟩
        · rename_i hne
          have htb : t = b := by cases t <;> cases b <;> simp_all [same2]
          subst htb
          split at h
          · rename_i hquiet
            obtain ⟨s', h1, h2, h3, h4⟩ := strip_sound h
            by_cases hgg : g = true
            · rw [if_pos (by rw [want (hy1 t (hbb (hc1 hgg)))]; simp)]
              exact doit h2 h3 (h4 hgg hs) hme hf (f := fun v => .cond g v) (fun hv => cond_val hv hgg) (aopG_aop h1 hgg)
            · have hgf : g = false := by simpa using hgg
              rw [if_neg (by rw [wantN (hy2 (hc2 hgf))]; simp)]
              obtain ⟨v, hk⟩ := quiet_some hquiet h1
              rw [h2] at hk
              refine ⟨fun _ _ => trivial, skip hme hf (v := .cond g v) ?_ hk⟩
              rw [hgf]; exact undef_val
          · obtain ⟨ha, hb⟩ := h
            by_cases hgg : g = true
            · rw [if_pos (by rw [want (hy1 t (hbb (hc1 hgg)))]; simp)]
              obtain ⟨s', h1, h2, h3, h4⟩ := strip_sound (ha hgg)
              exact doit h2 h3 (h4 rfl hs) (hs.cons (v := .bl t) (hc1 hgg)) hf (f := id) (fun h => h) h1
            · have hgf : g = false := by simpa using hgg
              rw [if_neg (by rw [wantN (hy2 (hc2 hgf))]; simp)]
              refine ⟨fun _ _ => trivial, skip (hs.cons (v := .cond false (.bl (!t))) ?_) hf Val.junk (hb hgf)⟩
              rw [hc2 hgf]; exact undef_val
      · exact h.elim
theorem aops_sound {rd : Option Nat} (ht : TabOk P tab) {ops : Array Oper} : ∀ (r : List Oper) (i : Nat) {s : St} {a : Act} {w : World} {ρ : Ro} {K : St → Prop} {E : AV → List Ent → Prop}, ops.toList.drop i = r → aops (std P n₀) tab ops.toList r s K E → RelS ρ s a w →
    Ends ρ s a w K E Q → wpOpsIn (fen rd) 0 P ops Q (List.range' i r.length) a w := by
  intro r
  induction r with
  | nil => intro i s a w ρ K E _ h hs he; exact he.fin s ρ a w h rfl hs (Stp.refl _ _ _)
  | cons q r ih =>
    intro i s a w ρ K E hi h hs he
    have hq : ops[i]? = some q := by
      have : (ops.toList.drop i)[0]? = some q := by rw [hi]; rfl
      simpa using this
    have hi' : ops.toList.drop (i + 1) = r := by
      rw [← List.drop_drop, hi]; rfl
    rw [List.length_cons, List.range'_succ, wpOpsIn_cons]
    exact aops_step ht hq h hs (fun s' ρ' a' w' hk hn hr hst => ih (i + 1) hi' hk hr (he.next hn hst)) (fun x v ρ' σ' w' hx hv hst hr => he.die x v ρ' σ' w' a hx hv hst hr hs.size (by rw [hst.rm]; exact hs.defers.step hs.rel hst))
end
end Go.Pt
namespace Go.Pt
open Go
section
variable {P : Program} {n₀ : Nat} {tab : Nat → Ty} {J : Jd}
structure Like (s t : St) : Prop where
  ev : ∀ i, look s.env i = look t.env i
  hp : s.hp = t.hp
  n : s.n = t.n
theorem Like.refl (s : St) : Like s s := ⟨fun _ => rfl, rfl, rfl⟩
theorem Like.trans {s t u : St} (h : Like s t) (k : Like t u) : Like s u := ⟨fun i => (h.ev i).trans (k.ev i), h.hp.trans k.hp, h.n.trans k.n⟩
theorem Like.evs {s t : St} (h : Like s t) (x : Operand) : s.ev x = t.ev x := by cases x <;> first | exact h.ev _ | rfl
theorem look_put {s : St} {d : Option Nat} {v : AV} {h : List Ent} {i : Nat} : look (s.put d v h).env i = if d = some i then v else look s.env i := by
  cases d with
  | none => simp [St.put]
  | some d =>
    simp only [St.put, look]
    split
    · rename_i e; rw [if_pos (by rw [beN_t e])]
    · rename_i e; rw [if_neg (fun he => by simp at he; subst he; simp at e)]
theorem put_hp {s : St} {d : Option Nat} {v : AV} {h : List Ent} : (s.put d v h).hp = h := by cases d <;> rfl
theorem put_n {s : St} {d : Option Nat} {v : AV} {h : List Ent} : (s.put d v h).n = s.n := by cases d <;> rfl
theorem Like.put {s t : St} (h : Like s t) (d : Option Nat) (v : AV) (k : List Ent) : Like (s.put d v k) (t.put d v k) :=
  ⟨fun i => by rw [look_put, look_put, h.ev i], by rw [put_hp, put_hp], by rw [put_n, put_n, h.n]⟩
theorem RelS.same {ρ : Ro} {s t : St} {a : Act} {w : World} (he : ∀ i, look s.env i = look t.env i) (hn : s.n = t.n) (hp : s.hp = t.hp) (h : RelS ρ s a w) : RelS ρ t a w :=
  ⟨h.defers, h.size.trans hn, hp ▸ h.rel, fun i => by rw [← hp, ← he i]; exact h.vals i⟩
theorem at_some {α : Type} {xs : List α} {i : Int} (h : 0 ≤ i ∧ i < xs.length) : ∃ e, xs[i.toNat]? = some e := ⟨_, List.getElem?_eq_getElem (by omega)⟩
theorem at_someB {b : ByteArray} {i : Int} (h : 0 ≤ i ∧ i < b.size) : ∃ e, b.data.toList[i.toNat]? = some e :=
  have e : b.size = b.data.toList.length := Array.length_toList.symm ▸ rfl
  at_some (by rw [← e]; exact h)
def Sure (J : Jd) (tab : Nat → Ty) (op : Op) (s : St) (v : AV) : Prop := ∀ s' : St, (∀ x ∈ op.operands, s'.ev x = s.ev x) → ∀ K E : AV → List Ent → Prop, K v s'.hp → aop J tab op s' K E
theorem under_sure {g : Bool} {a : AV} {K : AV → Prop} (h : under g a K) : ∃ x, K x ∧ ∀ K' : AV → Prop, K' x → under g a K' := by
  unfold under at h ⊢
  split at h
  · exact ⟨_, h.2, fun K' hk => ⟨h.1, hk⟩⟩
  · exact ⟨_, h, fun K' hk => hk⟩
theorem parts_cong {s s' : St} : ∀ {l : List (Nat × Operand)}, (∀ x, x ∈ l.map (·.2) → s'.ev x = s.ev x) → parts s' l = parts s l
  | [], _ => rfl
  | (i, x) :: l, h => by
    simp only [parts]
    rw [h x (by simp), parts_cong (l := l) fun y hy => h y (List.mem_cons_of_mem _ hy)]
theorem evs_eq' {s s' : St} : ∀ {l : List Operand}, (∀ x ∈ l, s'.ev x = s.ev x) → evs s' l = evs s l
  | [], _ => rfl
  | x :: l, h => by
    simp only [evs]
    rw [h x List.mem_cons_self, evs_eq' (l := l) fun y hy => h y (List.mem_cons_of_mem _ hy)]
theorem sure_of {op : Op} (hs : sureOp tab op = true) {s : St} {K : AV → Prop} (h : aop (std P n₀) tab op s (fun v _ => K v) (fun _ _ => False)) : ∃ v, K v ∧ Sure (std P n₀) tab op s v := by
  cases op <;> simp only [sureOp, Bool.false_eq_true] at hs
  all_goals simp only [Sure, Op.operands, List.mem_toArray, List.mem_cons, List.not_mem_nil, or_false, forall_eq, forall_eq_or_imp]
  case move x => exact ⟨_, h, fun s' he K' E' hk => by simp only [aop, he]; exact hk⟩
  case assign x => exact ⟨_, h, fun s' he K' E' hk => by simp only [aop, he]; exact hk⟩
  case pick c a b =>
    simp only [aop] at h
    split at h
    · rename_i e
      obtain ⟨x, hk, hx⟩ := under_sure h
      exact ⟨x, hk, fun s' he K' E' hk' => by simp only [aop, he, e]; exact hx _ hk'⟩
    · rename_i e
      obtain ⟨x, hk, hx⟩ := under_sure h
      exact ⟨x, hk, fun s' he K' E' hk' => by simp only [aop, he, e]; exact hx _ hk'⟩
    · rename_i t e
      obtain ⟨x, h, hx⟩ := under_sure h
      obtain ⟨y, h, hy⟩ := under_sure h
      repeat' split at h
      all_goals first
        | exact h.elim
        | (refine ⟨_, h, fun s' he K' E' hk' => ?_⟩
           simp only [aop, he, e]
           refine hx _ (hy _ ?_)
           simp only [*])
    · exact h.elim
  case unOp =>
    simp only [aop] at h
    repeat' split at h
    all_goals first
      | exact h.elim
      | (refine ⟨_, h, fun s' he K' E' hk => ?_⟩; simp only [aop, he]; simp_all)
  case convert =>
    simp only [aop] at h
    repeat' split at h
    all_goals first
      | exact h.elim
      | (refine ⟨_, h.2, fun s' he K' E' hk => ?_⟩; have h1 := h.1; simp only [aop, he]; simp_all; done)
      | (refine ⟨_, h, fun s' he K' E' hk => ?_⟩; simp only [aop, he]; simp_all)
  case fieldAddr =>
    simp only [aop] at h
    repeat' split at h
    all_goals first
      | exact h.elim
      | (refine ⟨_, h, fun s' he K' E' hk => ?_⟩; simp only [aop, *])
  case field =>
    simp only [aop] at h
    repeat' split at h
    all_goals first
      | exact h.elim
      | (refine ⟨_, h, fun s' he K' E' hk => ?_⟩; simp only [aop, he]; simp_all)
  case extract =>
    simp only [aop] at h
    repeat' split at h
    all_goals first
      | exact h.elim
      | (refine ⟨_, h, fun s' he K' E' hk => ?_⟩; simp only [aop, he]; simp_all)
  case indexAddr =>
    have ix : ∀ {xs : List AV} {n : Int} {f : AV → AV}, atIx (std P n₀) xs n (fun e => K (f e)) → ∃ v, K v ∧ ∀ K' : AV → Prop, K' v → atIx (std P n₀) xs n (fun e => K' (f e)) := by
      intro xs n f h
      obtain ⟨hi, h⟩ := h
      replace hi : 0 ≤ n ∧ n < (xs.length : Int) := hi
      obtain ⟨e, hx⟩ := at_some hi
      refine ⟨_, h e hx, fun K' hk => ⟨hi, fun e' hx' => ?_⟩⟩
      replace hx' : xs[n.toNat]? = some e' := hx'
      rw [hx] at hx'; simp only [Option.some.injEq] at hx'; subst hx'; exact hk
    simp only [aop] at h
    repeat' split at h
    all_goals first
      | exact h.elim
      | (obtain ⟨v, hk, hv⟩ := ix (f := fun e => .cptr e.cells 0) h
         refine ⟨_, hk, fun s' he K' E' hk => ?_⟩
         simp only [aop, *]
         exact hv (fun v => K' v s'.hp) hk)
      | (refine ⟨_, h.2, fun s' he K' E' hk => ?_⟩
         simp only [aop, he]
         simp_all)
  case index =>
    simp only [aop] at h
    repeat' split at h
    all_goals first
      | exact h.elim
      | (obtain ⟨hi, h⟩ := h
         rename_i b _
         obtain ⟨e, hx⟩ := at_someB (b := b) hi
         refine ⟨_, h _ hx, fun s' he K' E' hk => ?_⟩
         simp only [aop, *]
         refine ⟨by first | exact hi | exact trivial | exact ⟨trivial, trivial⟩, fun e' hx' => ?_⟩
         have := hx.symm.trans hx'
         simp only [Option.some.injEq] at this
         subst this; exact hk)
  case nilCheck =>
    simp only [aop] at h
    repeat' split at h
    all_goals first
      | exact h.elim
      | (refine ⟨_, h, fun s' he K' E' hk => ?_⟩; simp only [aop, he]; simp_all)
  case build =>
    rename_i t ps
    have hps : ∀ (s' : St), (∀ x ∈ (Op.build t ps).operands, s'.ev x = s.ev x) → parts s' ps.toList = parts s ps.toList := fun s' he => parts_cong fun x hx => he x (by simpa [Op.operands] using hx)
    simp only [aop] at h
    repeat' split at h
    all_goals first
      | exact h.elim
      | (refine ⟨_, h, fun s' he K' E' hk => ?_⟩
         have e0 := hps s' (by simpa [Op.operands] using he)
         simp only [aop, *])
  case buildSlice =>
    rename_i t n ps
    have hps : ∀ (s' : St), (∀ x ∈ (Op.buildSlice t n ps).operands, s'.ev x = s.ev x) → parts s' ps.toList = parts s ps.toList := fun s' he => parts_cong fun x hx => he x (by simpa [Op.operands] using hx)
    simp only [aop] at h
    repeat' split at h
    all_goals first
      | exact h.elim
      | (refine ⟨_, h, fun s' he K' E' hk => ?_⟩
         have e0 := hps s' (by simpa [Op.operands] using he)
         simp only [aop, *])
  case makeFunc =>
    rename_i fn first caps
    simp only [aop] at h
    repeat' split at h
    all_goals first
      | exact h.elim
      | (refine ⟨_, h, fun s' he K' E' hk => ?_⟩
         have : evs s' caps.toList = evs s caps.toList := evs_eq' fun x hx => he x (by simp; right; simpa using hx)
         simp only [aop, *])
  case slice t x lo hi mx =>
    cases mx with
    | some m => simp at hs
    | none =>
      have ho : ∀ (s' : St) (y : Option Operand), (∀ x' ∈ (Op.slice t x lo hi none).operands, s'.ev x' = s.ev x') → (y = lo ∨ y = hi) → optI s' y = optI s y := by
        intro s' y he hy
        cases y with
        | none => rfl
        | some y =>
          have : s'.ev y = s.ev y := he y (by rcases hy with hy | hy <;> subst hy <;> simp [Op.operands])
          simp only [optI, this]
      have hx : ∀ (s' : St), (∀ x' ∈ (Op.slice t x lo hi none).operands, s'.ev x' = s.ev x') → s'.ev x = s.ev x := fun s' he => he x (by simp [Op.operands])
      have key : ∀ {l h2 : Option Int} {K : AV → Prop}, slA (std P n₀) tab (tab t) (s.ev x) l h2 none K → ∃ v, K v ∧ ∀ K' : AV → Prop, K' v → slA (std P n₀) tab (tab t) (s.ev x) l h2 none K' := by
        intro l h2 K h
        unfold slA at h ⊢
        have sx : ∀ {z : Nat} {xs : List AV} {tk : Tok}, slX (std P n₀) z xs tk l h2 none K → ∃ v, K v ∧ ∀ K' : AV → Prop, K' v → slX (std P n₀) z xs tk l h2 none K' := by
          intro z xs tk h
          unfold slX at h ⊢
          cases h2 <;> cases l <;> simp only at h ⊢
          · exact ⟨_, h, fun K' hk => hk⟩
          · exact ⟨_, h.2.2, fun K' hk => ⟨h.1, h.2.1, hk⟩⟩
          · exact ⟨_, h.2.2, fun K' hk => ⟨h.1, h.2.1, hk⟩⟩
          · exact ⟨_, h.2.2.2, fun K' hk => ⟨h.1, h.2.1, h.2.2.1, hk⟩⟩
        split at h
        · split at h
          · exact h.elim
          · split at h
            · split at h
              · exact sx h
              · exact h.elim
            · cases h2 <;> cases l <;> simp only at h ⊢
              · exact sx h
              · exact sx h
              · exact ⟨_, h.2.2, fun K' hk => ⟨h.1, h.2.1, hk⟩⟩
              · exact sx h
            · split at h
              case h_2 => exact h.elim
              unfold slV at h ⊢
              cases h2 <;> cases l <;> simp only at h ⊢
              · exact ⟨_, h, fun K' hk => hk⟩
              · exact ⟨_, h.2.2, fun K' hk => ⟨h.1, h.2.1, hk⟩⟩
              · exact ⟨_, h.2.2, fun K' hk => ⟨h.1, h.2.1, hk⟩⟩
              · exact ⟨_, h.2.2.2, fun K' hk => ⟨h.1, h.2.1, h.2.2.1, hk⟩⟩
            · exact h.elim
        · split at h
          · unfold slS at h ⊢
            cases h2 <;> cases l <;> simp only at h ⊢
            · exact ⟨_, h, fun K' hk => hk⟩
            · exact ⟨_, h.2.2, fun K' hk => ⟨h.1, h.2.1, hk⟩⟩
            · exact ⟨_, h.2.2, fun K' hk => ⟨h.1, h.2.1, hk⟩⟩
            · exact ⟨_, h.2.2.2, fun K' hk => ⟨h.1, h.2.1, h.2.2.1, hk⟩⟩
          · exact h.elim
        · exact h.elim
      have e0 : optI s none = some none := rfl
      simp only [aop, e0] at h
      split at h
      case h_2 => exact h.elim
      rename_i l hl
      split at h
      case h_2 => exact h.elim
      rename_i h2 hh
      obtain ⟨v, hk, hv⟩ := key h
      refine ⟨v, hk, fun s' he K' E' hk' => ?_⟩
      have he' : ∀ x' ∈ (Op.slice t x lo hi none).operands, s'.ev x' = s.ev x' := by simpa [Op.operands] using he
      have e1 := ho s' lo he' (.inl rfl)
      have e2 := ho s' hi he' (.inr rfl)
      have e3 := hx s' he'
      have e4 : optI s' none = some none := rfl
      simp only [aop, e1, e2, hl, hh, e3, e4]
      exact hv (fun v => K' v s'.hp) hk'
  case call c =>
    obtain ⟨callee, args, ts⟩ := c
    cases callee <;> simp only [Bool.false_eq_true] at hs
    rename_i b
    have hev : ∀ (s' : St), (∀ x ∈ (Op.call ⟨.builtin b, args, ts⟩).operands, s'.ev x = s.ev x) → evs s' args.toList = evs s args.toList := fun s' he => evs_eq' fun x hx => he x (by simp [Op.operands, Call.operands]; simpa using hx)
    have bigo : ∀ {K : AV → Prop} {h0 : List Ent}, bi (std P n₀) tab b ts.toList (evs s args.toList) h0 (fun v _ => K v) → ∃ v, K v ∧ ∀ (h1 : List Ent) (K' : AV → List Ent → Prop), K' v h1 → bi (std P n₀) tab b ts.toList (evs s args.toList) h1 K' := by
      intro K h0 h
      unfold bi at h ⊢
      cases b <;> simp only [Bool.false_eq_true] at hs <;> simp only at h ⊢
      ·
        split at h
        · split at h
          · rename_i t l hts
            rw [hts] at hs
            simp only at hs
            unfold lenA at h ⊢
            split at h
            · split at h
              · exact ⟨_, h, fun _ K' hk => hk⟩
              · exact h.elim
            · split at h
              · exact ⟨_, h, fun _ K' hk => hk⟩
              · exact ⟨_, h, fun _ K' hk => hk⟩
              · exact ⟨_, h, fun _ K' hk => hk⟩
              · exact ⟨_, h, fun _ K' hk => hk⟩
              · exact h.elim
            · rename_i hk; rw [hk] at hs; simp at hs
            · exact h.elim
          · exact h.elim
        · exact h.elim
      all_goals
        split at h
        · exact ⟨_, h, fun _ K' hk => hk⟩
        · exact ⟨_, h, fun _ K' hk => hk⟩
        · exact h.elim
    have hb : b ≠ .delete ∧ b ≠ .clear := by constructor <;> intro e <;> subst e <;> simp at hs
    have hred : ∀ {s' : St} {K' E' : AV → List Ent → Prop}, aop (std P n₀) tab (.call ⟨.builtin b, args, ts⟩) s' K' E' = bi (std P n₀) tab b ts.toList (evs s' args.toList) s'.hp K' := by
      intro s' K' E'
      simp only [aop]
      cases b <;> first | rfl | exact absurd rfl hb.1 | exact absurd rfl hb.2
    rw [hred] at h
    obtain ⟨v, hk, hv⟩ := bigo h
    refine ⟨v, hk, fun s' he K' E' hk' => ?_⟩
    have he' : ∀ x' ∈ (Op.call ⟨.builtin b, args, ts⟩).operands, s'.ev x' = s.ev x' := by simpa [Op.operands, Call.operands] using he
    rw [hred, hev s' he']
    exact hv _ _ hk'
  case binOp p t x y u =>
    have key : ∀ {K : AV → Prop}, binA (std P n₀) (tab t) p (s.ev x) (s.ev y) K → ∃ v, K v ∧ ∀ K' : AV → Prop, K' v → binA (std P n₀) (tab t) p (s.ev x) (s.ev y) K' := by
      intro K h
      have ar : ∀ {p a b}, arA (std P n₀) p a b K → ∃ v, K v ∧ ∀ K' : AV → Prop, K' v → arA (std P n₀) p a b K' := by
        intro p a b h
        simp only [arA] at h ⊢
        repeat' split at h
        all_goals first
          | exact h.elim
          | exact ⟨_, h, fun K' hk => by simp_all⟩
          | exact ⟨_, h.2, fun K' hk => by simp_all⟩
      have dv : ∀ {p a b}, dvA (std P n₀) p a b K → ∃ v, K v ∧ ∀ K' : AV → Prop, K' v → dvA (std P n₀) p a b K' := by
        intro p a b h
        simp only [dvA] at h ⊢
        repeat' split at h
        all_goals first
          | exact h.elim
          | exact ⟨_, h.2, fun K' hk => by simp_all⟩
      have sh : ∀ {p a b}, shA (std P n₀) p a b K → ∃ v, K v ∧ ∀ K' : AV → Prop, K' v → shA (std P n₀) p a b K' := by
        intro p a b h
        simp only [shA] at h ⊢
        repeat' split at h
        all_goals first
          | exact h.elim
          | exact ⟨_, h.2, fun K' hk => by simp_all⟩
      have cp : ∀ {p a b}, cpA (std P n₀) p a b K → ∃ v, K v ∧ ∀ K' : AV → Prop, K' v → cpA (std P n₀) p a b K' := by
        intro p a b h
        simp only [cpA] at h ⊢
        repeat' split at h
        all_goals first
          | exact h.elim
          | exact ⟨_, h, fun K' hk => by simp_all⟩
      have eq : ∀ {n a b}, (∀ e, (tab t).k ≠ .slice e) → eqA (std P n₀) (tab t) n a b K → ∃ v, K v ∧ ∀ K' : AV → Prop, K' v → eqA (std P n₀) (tab t) n a b K' := by
        intro n a b hn h
        unfold eqA at h ⊢
        split at h
        · obtain ⟨⟨e, he⟩, _⟩ := h; exact absurd he (hn e)
        · repeat' split at h
          all_goals first
            | exact h.elim
            | exact ⟨_, h, fun K' hk => by simp_all⟩
      have noS : ∀ {b : Bool}, (match (tab t).k with | .slice _ => false | _ => true) = true → ∀ e, (tab t).k ≠ .slice e := by
        intro _ h e he
        rw [he] at h; simp at h
      cases p <;> simp only [binA] at h ⊢ <;> first | exact ar h | exact dv h | exact sh h | exact cp h | exact eq (noS (b := true) hs) h
    have key : ∀ {K : AV → Prop}, binB (std P n₀) (tab t) p (s.ev x) (s.ev y) (lit1 y) K → ∃ v, K v ∧ ∀ K' : AV → Prop, K' v → binB (std P n₀) (tab t) p (s.ev x) (s.ev y) (lit1 y) K' := by
      intro K h
      cases hl : lit1 y with
      | false => rw [hl] at h; exact key h
      | true =>
        rw [hl] at h
        cases p <;> first
          | exact key h
          | (simp only [binB, bitA] at h ⊢
             split at h
             · split at h
               · split at h
                 · obtain ⟨h1, h2, h3⟩ := h
                   rcases h1 with h1 | h1
                   · refine ⟨_, h2 h1, fun K' hk => ?_⟩
                     simp_all [std, stdOps]
                   · refine ⟨_, h3 h1, fun K' hk => ?_⟩
                     simp_all [std, stdOps]
                 · exact h.elim
               · exact h.elim
             · exact h.elim)
    simp only [aop] at h ⊢
    obtain ⟨v, hk, hv⟩ := key h
    exact ⟨v, hk, fun s' he K' E' hk' => by rw [he.1, he.2]; exact hv _ hk'⟩
theorem aopG_nc {x : Operand} {g : Bool} {s : St} {K E : AV → List Ent → Prop} (h : s.ev x = .nilp → False) : aopG J tab g (.nilCheck x) s K E = aop J tab (.nilCheck x) s K E := by
  simp only [aopG]
theorem aopG_fa {t f : Nat} {x : Operand} {g : Bool} {s : St} {K E : AV → List Ent → Prop} (h : s.ev x = .nilp → False) : aopG J tab g (.fieldAddr t x f) s K E = aop J tab (.fieldAddr t x f) s K E := by
  simp only [aopG]
theorem sureG_of {op : Op} (hs : sureOp tab op = true) {g : Bool} {s : St} {K : AV → Prop} (h : aopG (std P n₀) tab g op s (fun v _ => K v) (fun _ _ => False)) :
    ∃ v, K v ∧ ∀ s' : St, (∀ x ∈ op.operands, s'.ev x = s.ev x) → ∀ K E : AV → List Ent → Prop, K v s'.hp → aopG (std P n₀) tab g op s' K E := by
  cases op
  case pick c a b =>
    simp only [Op.operands, List.mem_toArray, List.mem_cons, List.not_mem_nil, or_false, forall_eq, forall_eq_or_imp]
    simp only [aopG] at h
    split at h
    · rename_i e
      obtain ⟨x, hk, hx⟩ := under_sure h
      exact ⟨x, hk, fun s' he K' E' hk' => by simp only [aopG, he, e]; exact hx _ hk'⟩
    · rename_i e
      obtain ⟨x, hk, hx⟩ := under_sure h
      exact ⟨x, hk, fun s' he K' E' hk' => by simp only [aopG, he, e]; exact hx _ hk'⟩
    · rename_i t e
      obtain ⟨x, h, hx⟩ := under_sure h
      obtain ⟨y, h, hy⟩ := under_sure h
      repeat' split at h
      all_goals first
        | exact h.elim
        | (refine ⟨_, h, fun s' he K' E' hk' => ?_⟩
           simp only [aopG, he, e]
           refine hx _ (hy _ ?_)
           simp only [*])
    · exact h.elim
  case nilCheck x =>
    simp only [aopG] at h
    split at h
    · rename_i e
      exact ⟨_, h.2, fun s' he K' E' hk' => by have hx := he x (by simp [Op.operands]); simp only [aopG, hx, e]; exact ⟨h.1, hk'⟩⟩
    · rename_i hn
      obtain ⟨v, hk, hv⟩ := sure_of (P := P) (n₀ := n₀) hs h
      refine ⟨v, hk, fun s' he K' E' hk' => ?_⟩
      have hx := he x (by simp [Op.operands])
      rw [aopG_nc (by rw [hx]; exact hn)]
      exact hv s' he K' E' hk'
  case fieldAddr t x f =>
    simp only [aopG] at h
    split at h
    · rename_i e
      exact ⟨_, h.2, fun s' he K' E' hk' => by have hx := he x (by simp [Op.operands]); simp only [aopG, hx, e]; exact ⟨h.1, hk'⟩⟩
    · rename_i hn
      obtain ⟨v, hk, hv⟩ := sure_of (P := P) (n₀ := n₀) hs h
      refine ⟨v, hk, fun s' he K' E' hk' => ?_⟩
      have hx := he x (by simp [Op.operands])
      rw [aopG_fa (by rw [hx]; exact hn)]
      exact hv s' he K' E' hk'
  all_goals exact sure_of (P := P) (n₀ := n₀) hs h
def St.over (s : St) (o : List (Nat × AV)) : St := ⟨o ++ s.env, s.hp, s.n⟩
theorem look_over {o e : List (Nat × AV)} {f : List (Nat × AV)} {t : Nat} (h : look e t = look f t) : look (o ++ e) t = look (o ++ f) t := by
  induction o with
  | nil => exact h
  | cons x o ih => simp only [List.cons_append, look]; split <;> first | rfl | exact ih
theorem ev_over {s t : St} {o : List (Nat × AV)} {x : Operand} (h : s.ev x = t.ev x) : (s.over o).ev x = (t.over o).ev x := by
  cases x with
  | tmp u => exact look_over h
  | _ => rfl
theorem strip_sure {g : Bool} : ∀ {l : List Operand} {s : St} {K : St → Prop}, strip g l s K → ∃ o, K (s.over o) ∧ ∀ s' : St, (∀ x ∈ l, s'.ev x = s.ev x) → ∀ K' : St → Prop, K' (s'.over o) → strip g l s' K'
  | [], s, K, h => ⟨[], h, fun _ _ _ h => h⟩
  | .tmp t :: r, s, K, h => by
    simp only [strip] at h
    split at h
    · rename_i g' v e
      obtain ⟨o, hk, ho⟩ := strip_sure h.2
      refine ⟨o ++ [(t, v)], by simpa [St.over] using hk, fun s' he K' hk' => ?_⟩
      have e' : look s'.env t = .cond g' v := (he (.tmp t) List.mem_cons_self).trans e
      simp only [strip, e']
      refine ⟨h.1, ho _ (fun x hx => ?_) K' (by simpa [St.over] using hk')⟩
      have := he x (List.mem_cons_of_mem _ hx)
      cases x with
      | tmp u => simp only [St.ev, look]; split <;> first | rfl | exact this
      | _ => rfl
    · rename_i e
      obtain ⟨o, hk, ho⟩ := strip_sure h
      refine ⟨o, hk, fun s' he K' hk' => ?_⟩
      have e' : look s'.env t = look s.env t := he (.tmp t) List.mem_cons_self
      simp only [strip, e']
      exact ho s' (fun x hx => he x (List.mem_cons_of_mem _ hx)) K' hk'
  | .const _ :: r, s, K, h => let ⟨o, hk, ho⟩ := strip_sure (l := r) h; ⟨o, hk, fun s' he => ho s' fun x hx => he x (List.mem_cons_of_mem _ hx)⟩
  | .global _ :: r, s, K, h => let ⟨o, hk, ho⟩ := strip_sure (l := r) h; ⟨o, hk, fun s' he => ho s' fun x hx => he x (List.mem_cons_of_mem _ hx)⟩
  | .func _ :: r, s, K, h => let ⟨o, hk, ho⟩ := strip_sure (l := r) h; ⟨o, hk, fun s' he => ho s' fun x hx => he x (List.mem_cons_of_mem _ hx)⟩
theorem reads_sub {op : Op} {x : Operand} (h : x ∈ reads op) : x ∈ op.operands := by
  cases op
  case pick c a b => simp only [reads, List.mem_singleton] at h; simp [Op.operands, h]
  all_goals simpa [reads] using h
structure Agree (all : List Oper) (q : Oper) (s s' : St) : Prop where
  n : s'.n = s.n
  ev : ∀ x ∈ q.op.operands, s'.ev x = s.ev x
  gd : ∀ j b d, q.guard = some (j, b) → (nth all j).bind (·.dst) = some d → look s'.env d = look s.env d
theorem wanted_of {ops : Array Oper} {q : Oper} {j d : Nat} {b : Bool} {g : Option Bool} {ρ : Ro} {s : St} {a : Act} {w : World} (hs : RelS ρ s a w) (hg : q.guard = some (j, b)) (hd : (nth ops.toList j).bind (·.dst) = some d)
    (h : gOf (std P n₀) b (look s.env d) = some g) : Region.wanted q (yielded ops a.tmps) = g.getD false := by
  obtain ⟨hy1, hy2⟩ := yield_of hs hd
  have hval := hs.vals d
  unfold gOf at h
  split at h
  · rename_i t e
    rw [e] at hval
    simp only [Option.some.injEq] at h
    subst h
    have hyt := hy1 t hval
    simp only [Region.wanted, hg, hyt]
    cases t <;> cases b <;> rfl
  · rename_i t e
    rw [e] at hval
    have hyt := hy1 t (by rw [val_bl hval]; exact ⟨1, rfl⟩)
    simp only [Region.wanted, hg, hyt]
    cases t <;> cases b <;> simp only [same2, Option.some.injEq] at h <;> subst h <;> rfl
  · rename_i g' t e
    rw [e] at hval
    simp only [Option.some.injEq] at h
    subst h
    obtain ⟨hc1, hc2⟩ := val_cond hval
    cases g' with
    | true =>
      have hyt := hy1 t (hc1 rfl)
      simp only [Region.wanted, hg, hyt]
      cases t <;> cases b <;> rfl
    | false =>
      have hyn := hy2 (hc2 rfl)
      simp only [Region.wanted, hg, hyn]
      rfl
  · rename_i g' t e
    rw [e] at hval
    obtain ⟨hc1, hc2⟩ := val_cond hval
    cases g' with
    | true =>
      have hyt := hy1 t (by rw [val_bl (hc1 rfl)]; exact ⟨1, rfl⟩)
      simp only [Region.wanted, hg, hyt]
      cases t <;> cases b <;> simp only [same2, Option.some.injEq] at h <;> subst h <;> rfl
    | false =>
      have hyn := hy2 (hc2 rfl)
      simp only [Region.wanted, hg, hyn]
      cases t <;> cases b <;> simp only [same2, Option.some.injEq] at h <;> subst h <;> rfl
  · simp at h
end
end Go.Pt
