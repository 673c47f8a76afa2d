/- Each operation that the abstract machine does is one that the model does: sums, tests, slices, maps made, functions made. -/
import Derived.Test.YtilffanmaicakaaAmOps2
import Derived.Laws.AppendOwn
namespace Go.Pt
open Go

section
variable {P : Program} {n₀ : Nat} {tab : Nat → Ty} {w : World} {ρ : Ro} {s : St} {a : Act} {o : Oper} {K E : AV → List Ent → Prop} {next : Act → World → Prop} {Q : Exit → Act → World → Prop}

theorem run_binOp {p : BinOp} {t t' : TypeId} {x y : Operand} {r : Value} (ho : o.op = .binOp p t x y t') (hg : (eqGuard p t x y (a.eval x) (a.eval y)).run P w = .ok () w) (h : (binOp p t (a.eval x) (a.eval y)).run P w = .ok r w) :
    (execOp a.eval o).run P w = .ok (.value r) w := by
  simp [execOp, ho, hg, h]

theorem sound_binOp (ht : TabOk P tab) {p : BinOp} {t t' : TypeId} {x y : Operand} (ho : o.op = .binOp p t x y t') (hs : RelS ρ s a w) (h : aop (std P n₀) tab (.binOp p t x y t') s K E) (hg : Goes ρ s a w o.dst K next) : o.wp P a w next Q := by
  have hx := ev_val hs x
  have hy := ev_val hs y
  have arith : ∀ {k k' : IntKind} {m n : Int} {r : AV} {rv : Value}, p ≠ .eql → p ≠ .neq → p ≠ .shl → p ≠ .shr → s.ev x = .int k m → s.ev y = .int k' n → Nat.beq (kn k) (kn k') = true → K r s.hp →
      (intOp p k m n).run P w = .ok rv w → Val w (Stay ρ s.hp) ρ s.hp.length r rv → o.wp P a w next Q := by
    intro k k' m n r rv p1 p2 p3 p4 ex ey hk hkk hr hv
    have := kn_eq hk; subst this
    rw [ex] at hx; rw [ey] at hy
    refine wp_value (v := rv) (w' := w) (run_binOp ho (guard_ok p1 p2) ?_) (hg.here hs hkk hv)
    rw [val_int hx, val_int hy, binOp_int p3 p4]
    exact hr
  have shifts : ∀ {k k' : IntKind} {m n : Int}, p = .shl ∨ p = .shr → s.ev x = .int k m → s.ev y = .int k' n → 0 ≤ n → K (.int k (stdOps.sh p k m n)) s.hp → o.wp P a w next Q := by
    intro k k' m n hp ex ey h0 hk
    rw [ex] at hx; rw [ey] at hy
    refine wp_value (v := .int k (stdOps.sh p k m n)) (w' := w) (run_binOp ho (guard_ok (by rcases hp with e | e <;> simp [e]) (by rcases hp with e | e <;> simp [e])) ?_) (hg.here hs hk ⟨1, rfl⟩)
    rw [val_int hx, val_int hy]
    have : ¬ n < 0 := by omega
    rcases hp with e | e <;> subst e <;> simp [binOp, Op.shift, this, stdOps]
  have strs : ∀ {u v : ByteArray} {r : AV} {rv : Value}, p ≠ .eql → p ≠ .neq → p ≠ .shl → p ≠ .shr → s.ev x = .str u → s.ev y = .str v → K r s.hp → (Op.stringOp p u v).run P w = .ok rv w → Val w (Stay ρ s.hp) ρ s.hp.length r rv → o.wp P a w next Q := by
    intro u v r rv p1 p2 p3 p4 ex ey hk hr hv
    rw [ex] at hx; rw [ey] at hy
    refine wp_value (v := rv) (w' := w) (run_binOp ho (guard_ok p1 p2) ?_) (hg.here hs hk hv)
    rw [val_str hx, val_str hy]
    cases p <;> first | exact absurd rfl p1 | exact absurd rfl p2 | exact absurd rfl p3 | exact absurd rfl p4 | (simpa [binOp] using hr)
  have sln : ∀ {z : Nat} {xs : List AV} {tk : Tok} (q : BinOp), s.ev x = .sl z xs tk → s.ev y = .nils → (p = .eql ∨ p = .neq) → (∀ b : Bool, (xs ≠ [] → b = decide (p = .neq)) → K (.bool b) s.hp) → (∃ e, P.underlying t = some (.slice e)) → o.wp P a w next Q := by
    intro z xs tk q ex ey hp hk hu
    rw [ex] at hx; rw [ey] at hy
    obtain ⟨ad, len, cap, hv, hl, _, _, hne⟩ := val_sl hx
    have hv2 := val_nils hy
    obtain ⟨e, hu⟩ := hu
    have run' : ∀ D, (Op.equalIn (D + 1) t (.slice ad len cap) (.slice none 0 0)).run P w = .ok ad.isNone w := by
      intro D; cases ad <;> simp [Op.equalIn, run_underlying hu]
    have run := run' 9999
    have hgd : (eqGuard p t x y (a.eval x) (a.eval y)).run P w = .ok () w := by rw [hv, hv2]; cases p <;> rfl
    have hne' : xs ≠ [] → ad.isNone = false := fun e => by obtain ⟨b, o', e', _⟩ := hne e; simp [e']
    rcases hp with e | e <;> subst e
    · refine wp_value (v := .bool ad.isNone) (w' := w) (run_binOp ho hgd ?_) (hg.here hs (hk _ (by simpa using hne')) ⟨1, rfl⟩)
      rw [hv, hv2]; simp [binOp, Op.equal, Op.maxDepth, run]
    · refine wp_value (v := .bool (!ad.isNone)) (w' := w) (run_binOp ho hgd ?_) (hg.here hs (hk _ (fun e => by simp [hne' e])) ⟨1, rfl⟩)
      rw [hv, hv2]; simp [binOp, Op.equal, Op.maxDepth, run]
  have eqs : ∀ {b : Bool}, eqT (std P n₀) (tab t) (s.ev x) (s.ev y) = some b → (p = .eql ∧ K (.bool b) s.hp ∨ p = .neq ∧ K (.bool (!b)) s.hp) → o.wp P a w next Q := by
    intro b he hk
    obtain ⟨⟨h1, h2⟩, h3⟩ := run_eqT ht he hx hy
    rcases hk with ⟨e, hk⟩ | ⟨e, hk⟩ <;> subst e
    · exact wp_value (run_binOp ho (h3 _ _ _) h1) (hg.here hs hk ⟨1, rfl⟩)
    · exact wp_value (run_binOp ho (h3 _ _ _) h2) (hg.here hs hk ⟨1, rfl⟩)
  have cmps : p = .lss ∨ p = .leq ∨ p = .gtr ∨ p = .geq → cpA (std P n₀) p (s.ev x) (s.ev y) (fun v => K v s.hp) → o.wp P a w next Q := by
    intro hp h
    have n1 : p ≠ .eql := by rcases hp with e | e | e | e <;> simp [e]
    have n2 : p ≠ .neq := by rcases hp with e | e | e | e <;> simp [e]
    have n3 : p ≠ .shl := by rcases hp with e | e | e | e <;> simp [e]
    have n4 : p ≠ .shr := by rcases hp with e | e | e | e <;> simp [e]
    unfold cpA at h
    split at h
    · rename_i k m ex
      split at h
      · rename_i k' n ey
        split at h
        · rename_i hk
          refine arith n1 n2 n3 n4 ex ey hk h (rv := .bool (stdOps.cmp p m n)) ?_ ⟨1, rfl⟩
          rcases hp with e | e | e | e <;> subst e <;> simp [intOp, Op.intCmp, stdOps]
        · exact h.elim
      · exact h.elim
    · rename_i u ex
      split at h
      · rename_i v ey
        refine strs n1 n2 n3 n4 ex ey h (rv := .bool (stdOps.scmp p u v)) ?_ ⟨1, rfl⟩
        rcases hp with e | e | e | e <;> subst e <;> simp [Op.stringOp, stdOps]
      · exact h.elim
    · exact h.elim
  have nums : p = .sub ∨ p = .mul ∨ p = .and ∨ p = .or ∨ p = .xor ∨ p = .andNot ∨ p = .add → arA (std P n₀) p (s.ev x) (s.ev y) (fun v => K v s.hp) → o.wp P a w next Q := by
    intro hp h
    unfold arA at h
    split at h
    · rename_i k m ex
      split at h
      · rename_i k' n ey
        split at h
        · rename_i hk
          refine arith (by rcases hp with e | e | e | e | e | e | e <;> simp [e]) (by rcases hp with e | e | e | e | e | e | e <;> simp [e]) (by rcases hp with e | e | e | e | e | e | e <;> simp [e]) (by rcases hp with e | e | e | e | e | e | e <;> simp [e]) ex ey hk h (rv := .int k (stdOps.ar p k m n)) ?_ ⟨1, rfl⟩
          rcases hp with e | e | e | e | e | e | e <;> subst e <;> simp [intOp, Op.intArith, Op.intBits, stdOps, bits]
        · exact h.elim
      · exact h.elim
    · rename_i u ex
      split at h
      · rename_i v ey
        split at h
        · refine strs (by simp) (by simp) (by simp) (by simp) ex ey h.2 (rv := .string (u ++ v)) ?_ ⟨1, rfl⟩
          have : ¬ ((u.size + v.size : Nat) : Int) > IntKind.i64.max := by have := h.1; simp [IntKind.max, IntKind.bits, IntKind.signed]; omega
          simp only [Op.stringOp, this, if_false, Sem.run_pure]
        · exact h.elim
      · exact h.elim
    · exact h.elim
  have divs : p = .quo ∨ p = .rem → dvA (std P n₀) p (s.ev x) (s.ev y) (fun v => K v s.hp) → o.wp P a w next Q := by
    intro hp h
    unfold dvA at h
    split at h
    · rename_i k m ex
      split at h
      · rename_i k' n ey
        split at h
        · rename_i hk
          have h0 : n ≠ 0 := h.1
          refine arith (by rcases hp with e | e <;> simp [e]) (by rcases hp with e | e <;> simp [e]) (by rcases hp with e | e <;> simp [e]) (by rcases hp with e | e <;> simp [e]) ex ey hk h.2 (rv := .int k (stdOps.ar p k m n)) ?_ ⟨1, rfl⟩
          rcases hp with e | e <;> subst e <;> simp [intOp, Op.intDiv, h0, stdOps]
        · exact h.elim
      · exact h.elim
    · exact h.elim
  have shfs : p = .shl ∨ p = .shr → shA (std P n₀) p (s.ev x) (s.ev y) (fun v => K v s.hp) → o.wp P a w next Q := by
    intro hp h
    unfold shA at h
    split at h
    · rename_i ex; split at h
      · rename_i ey; exact shifts hp ex ey h.1 h.2
      · exact h.elim
    · exact h.elim
  have equs : ∀ n : Bool, p = (if n then .neq else .eql) → eqA (std P n₀) (tab t) n (s.ev x) (s.ev y) (fun v => K v s.hp) → o.wp P a w next Q := by
    intro n hp h
    unfold eqA at h
    split at h
    · rename_i z xs tk ex ey
      refine sln .eql ex ey (by cases n <;> simp [hp]) (fun b hb => h.2 b (fun e => by rw [hb e]; cases n <;> simp [hp])) ?_
      obtain ⟨e, he⟩ := h.1
      obtain ⟨i, d, z', hty⟩ := ht.kind he (by simp)
      have := hty.k; rw [he] at this
      cases d <;> simp [tkOf] at this; exact ⟨_, hty.und⟩
    · split at h
      · rename_i b he
        cases n
        · exact eqs he (.inl ⟨by simp [hp], h⟩)
        · exact eqs he (.inr ⟨by simp [hp], h⟩)
      · exact h.elim
  simp only [aop] at h
  replace h := binB_A h
  cases p
  case eql => exact equs false rfl h
  case neq => exact equs true rfl h
  case lss => exact cmps (by simp) h
  case leq => exact cmps (by simp) h
  case gtr => exact cmps (by simp) h
  case geq => exact cmps (by simp) h
  case shl => exact shfs (by simp) h
  case shr => exact shfs (by simp) h
  case quo => exact divs (by simp) h
  case rem => exact divs (by simp) h
  all_goals exact nums (by simp) h

theorem sound_makeFunc {fn : Fn} {f1 cs : Array Operand} (ho : o.op = .makeFunc fn f1 cs) (hs : RelS ρ s a w) (h : aop (std P n₀) tab (.makeFunc fn f1 cs) s K E) (hg : Goes ρ s a w o.dst K next) : o.wp P a w next Q := by
  simp only [aop] at h
  split at h
  case h_2 => exact h.elim
  rename_i f
  split at h
  case h_2 => exact h.elim
  rename_i e
  have he : f1 = #[] := by cases f1; simp_all
  subst he
  obtain ⟨d, hd⟩ := all2_depth (evs_val hs cs.toList)
  refine wp_value (v := .func (.func f) #[] (cs.toList.map a.eval).toArray) (w' := w) ?_ (hg.here hs h ⟨d + 1, _, rfl, hd⟩)
  have : cs.map a.eval = (cs.toList.map a.eval).toArray := by apply Array.ext'; simp
  simp [execOp, ho, Instr.makeFunc, this]

theorem sound_makeMap {t : TypeId} {r : Option Operand} (ho : o.op = .makeMap t r) (hs : RelS ρ s a w) (h : aop (std P n₀) tab (.makeMap t r) s K E) (hg : Goes ρ s a w o.dst K next) : o.wp P a w next Q := by
  simp only [aop] at h
  split at h
  case h_2 => exact h.elim
  rw [lenN_eq, snoc_eq] at h
  have hst := hs.rel.push (ρ' := ρ.add s.hp.length w.heap.size) (w' := w.alloc (.map #[] 0)) (e := .mp []) (fun i hi => by simp [Ro.add]; omega) (fun _ _ => rfl) rfl rfl rfl rfl rfl (fun k ob hk => heap_alloc_old hk) (by rw [World.size_alloc]; omega)
    (fun b o ho => by simp only [OwnE, Ro.add, if_true] at ho; omega) (fun hst => ⟨[], 0, by simp only [Ro.add, if_true]; exact heap_alloc_new, trivial, by simp, by simp⟩)
  refine wp_value (v := .map (some w.heap.size)) (w' := w.alloc (.map #[] 0)) ?_ (hg.go _ _ _ _ _ h ⟨1, ?_⟩ hst.1 hst.2)
  · simp [execOp, ho, Instr.makeMap, World.alloc_eq]
  · simp [Cz, Ro.add]

theorem repl_eq {α : Type} (l : List α) : ∀ n, repl n l = (List.replicate n l).flatten
  | 0 => rfl
  | n + 1 => by simp [repl, repl_eq l n, List.replicate_succ]

theorem lits_repl {S : Nat → Nat → Prop} {m : Nat} (l : List Value) : ∀ n, All2 (Val w S ρ m) (repl n (l.map lit)) (repl n l)
  | 0 => trivial
  | n + 1 => (lits_val l).append (lits_repl l n)

theorem repl_length {α : Type} (l : List α) : ∀ n, (repl n l).length = n * l.length
  | 0 => by simp [repl]
  | n + 1 => by simp [repl, repl_length l n, Nat.succ_mul, Nat.add_comm]

theorem repl_get {α : Type} (l : List α) : ∀ (n i : Nat), i < n * l.length → (repl n l)[i]? = l[i % l.length]?
  | 0, i, h => by simp at h
  | n + 1, i, h => by
    by_cases hi : i < l.length
    · rw [repl, List.getElem?_append_left hi, Nat.mod_eq_of_lt hi]
    · have hl : l.length ≤ i := Nat.le_of_not_lt hi
      rw [repl, List.getElem?_append_right hl, repl_get l n _ (by rw [Nat.succ_mul] at h; omega), ← Nat.mod_eq_sub_mod hl]

theorem zeros_repl (z : Array Value) (n k : Nat) (hk : k = n * z.size) : ((Array.range k).map fun i => z[i % z.size]!) = (repl n z.toList).toArray := by
  subst hk
  apply Array.ext'
  apply List.ext_getElem?
  intro i
  simp only [Array.toList_map, Array.toList_range, List.getElem?_map]
  by_cases hi : i < n * z.size
  · rw [repl_get _ _ _ (by simpa using hi)]
    have hz : 0 < z.size := by rcases Nat.eq_zero_or_pos z.size with e | e; · simp [e] at hi
                               · exact e
    have hm : i % z.size < z.size := Nat.mod_lt _ hz
    simp [hi, hm]
  · rw [List.getElem?_eq_none (by simp; omega), List.getElem?_eq_none (by rw [repl_length]; simp; omega)]; rfl

theorem sound_indexAddr (ht : TabOk P tab) {t : TypeId} {x y : Operand} (ho : o.op = .indexAddr t x y) (hs : RelS ρ s a w) (h : aop (std P n₀) tab (.indexAddr t x y) s K E) (hg : Goes ρ s a w o.dst K next) : o.wp P a w next Q := by
  have hx := ev_val hs x
  have hy := ev_val hs y
  simp only [aop] at h
  split at h
  case h_2 => exact h.elim
  rename_i k n ey
  rw [ey] at hy
  have hyv := val_int hy
  split at h
  · rename_i e hk
    obtain ⟨i, d, z, hty⟩ := ht.kind hk (by simp)
    have hd : d = .slice e := by have := hty.k; rw [hk] at this; cases d <;> simp [tkOf] at this; rw [this]
    subst hd
    split at h
    · exact h.elim
    rename_i hok
    obtain ⟨i', d', z', hty'⟩ := ht.ok hok
    have run : ∀ {b o' len cap : Nat}, a.eval x = .slice (some ⟨b, o', none⟩) len cap → 0 ≤ n ∧ n < len → (execOp a.eval o).run P w = .ok (.value (.pointer (some ⟨b, o' + n.toNat * (tab e).size, none⟩))) w := by
      intro b o' len cap hv hn
      have h1 := run_und hty w
      have h2 := run_size hty' w
      simp only [execOp, ho, Instr.indexAt, hyv, hv, Sem.run_bind, asIntOf, Sem.run_pure, Result.andThen_ok, h1, hn.1, hn.2, and_self, if_true, h2, Addr.add]
      split
      · rename_i e0; simp [e0]
      · rfl
    split at h
    · rename_i z'' xs tk ex
      rw [ex] at hx
      split at h
      case h_2 => exact h.elim
      rename_i hz
      have hz' := Nat.eq_of_beq_eq_true hz
      obtain ⟨ad, len, cap, hv, hl, hcap, _, hne⟩ := val_sl hx
      obtain ⟨⟨h0, h1⟩, hkk⟩ := h
      replace h1 : n < (xs.length : Int) := h1
      replace hkk : ∀ e, xs[n.toNat]? = some e → _ := hkk
      have hlt : n.toNat < xs.length := by omega
      obtain ⟨b, o', rfl, hget⟩ := hne (by intro e; simp [e] at hlt)
      obtain ⟨vs, hc, hlen, hrd⟩ := hget n.toNat xs[n.toNat] (by simp [hlt])
      have hK := hkk xs[n.toNat] (by simp [hlt])
      obtain ⟨dd, hdd⟩ := all2_depth hc
      refine wp_value (run hv ⟨h0, by omega⟩) (hg.here hs hK ⟨dd + 1, b, o' + n.toNat * (tab e).size, vs, by simp, hdd, by rw [← hz']; exact hrd⟩)
    · rename_i id off z'' len ex
      rw [ex] at hx
      split at h
      case h_2 => exact h.elim
      rename_i hz
      have hz' := Nat.eq_of_beq_eq_true hz
      obtain ⟨dd, hx⟩ := hx
      cases dd with
      | zero => exact hx.elim
      | succ dd =>
        obtain ⟨hid, cap, hcap, hv⟩ := hx
        refine wp_value (run hv h.1) (hg.here hs h.2 ⟨1, hid, ?_⟩)
        rw [hz']
    · rename_i id z'' lo len N ex
      rw [ex] at hx
      split at h
      case h_2 => exact h.elim
      rename_i hz
      have hz' := Nat.eq_of_beq_eq_true hz
      obtain ⟨hid, ad, ln, cap, hv, hl, hcap, hadr, hloc⟩ := val_vs hx
      obtain ⟨⟨h0, h1⟩, h⟩ := h
      replace h1 : n < len := h1
      replace h : K (.vp id z'' (lo + n) 0) s.hp := h
      have hrun : ∃ b o', (execOp a.eval o).run P w = .ok (.value (.pointer (some ⟨b, o', none⟩))) w ∧ ((ρ.t id).pos = 0 → ∃ k : Nat, lo + n = k ∧ b = (ρ.t id).blk ∧ o' = (ρ.t id).start + k * z'' + 0) := by
        obtain ⟨b, o', rfl⟩ := hadr (by omega)
        refine ⟨b, _, run hv ⟨h0, by omega⟩, fun hp => ?_⟩
        obtain ⟨l, e1, e2, e3⟩ := hloc
        obtain ⟨e4, e5⟩ := e3 hp (by omega)
        simp only [Option.some.injEq, Addr.mk.injEq, and_true] at e4
        refine ⟨l + n.toNat, by omega, e4.1, ?_⟩
        rw [e4.2, Nat.add_mul, hz']; omega
      obtain ⟨b, o', hr, hlo⟩ := hrun
      exact wp_value hr (hg.here hs h ⟨1, hid, b, o', rfl, hlo⟩)
    · exact h.elim
  · rename_i len e hk
    obtain ⟨i, d, z, hty⟩ := ht.kind hk (by simp)
    have hd : d = .array len e := by have := hty.k; rw [hk] at this; cases d <;> simp [tkOf] at this; obtain ⟨rfl, rfl⟩ := this; rfl
    subst hd
    split at h
    · exact h.elim
    rename_i hok
    obtain ⟨i', d', z', hty'⟩ := ht.ok hok
    have run : ∀ {b o' : Nat}, a.eval x = .pointer (some ⟨b, o', none⟩) → 0 ≤ n ∧ n < len → (execOp a.eval o).run P w = .ok (.value (.pointer (some ⟨b, o' + n.toNat * (tab e).size, none⟩))) w := by
      intro b o' hv hn
      have h1 := run_und hty w
      have h2 := run_size hty' w
      simp only [execOp, ho, Instr.indexAt, hyv, hv, Sem.run_bind, asIntOf, Sem.run_pure, Result.andThen_ok, h1, hn.1, hn.2, and_self, if_true, h2, Addr.add, Instr.sureAddr]
      split
      · rename_i e0; simp [e0]
      · rfl
    split at h
    · rename_i id off ex
      rw [ex] at hx
      obtain ⟨hid, hv⟩ := val_ptr hx
      exact wp_value (run hv h.1) (hg.here hs h.2 ⟨1, hid, rfl⟩)
    · rename_i cs off ex
      rw [ex] at hx
      obtain ⟨b, o', vs, hv, h1, h2⟩ := val_cptr hx
      obtain ⟨dd, h1⟩ := all2_depth h1
      exact wp_value (run hv h.1) (hg.here hs h.2 ⟨dd + 1, b, o', vs, by rw [Nat.add_assoc], h1, h2⟩)
    · exact h.elim
  · exact h.elim

theorem sound_index (ht : TabOk P tab) {t : TypeId} {x y : Operand} (ho : o.op = .index t x y) (hs : RelS ρ s a w) (h : aop (std P n₀) tab (.index t x y) s K E) (hg : Goes ρ s a w o.dst K next) : o.wp P a w next Q := by
  have hx := ev_val hs x
  have hy := ev_val hs y
  simp only [aop] at h
  split at h
  case h_2 => exact h.elim
  rename_i k n ey
  rw [ey] at hy
  have hyv := val_int hy
  split at h
  case h_2 => exact h.elim
  rename_i hk
  obtain ⟨i, d, z, hty⟩ := ht.kind hk (by simp)
  have hd : d = .string := by have := hty.k; rw [hk] at this; cases d <;> simp [tkOf] at this; rfl
  subst hd
  split at h
  case h_2 => exact h.elim
  rename_i b ex
  rw [ex] at hx
  have hxv := val_str hx
  obtain ⟨⟨h0, h1⟩, hkk⟩ := h
  replace h1 : n < (b.size : Int) := h1
  replace hkk : ∀ c : UInt8, b.data.toList[n.toNat]? = some c → _ := hkk
  have hlt : n.toNat < b.data.toList.length := by simp; have : b.data.size = b.size := rfl; omega
  have hK := hkk b.data.toList[n.toNat] (by simp)
  refine wp_value (v := .int .u8 (b.data.toList[n.toNat]).toNat) (w' := w) ?_ (hg.here hs hK ⟨1, rfl⟩)
  have hu := run_und hty w
  have hb : b[n.toNat]? = some b.data.toList[n.toNat] := by
    have hs : n.toNat < b.size := by omega
    rw [getElem?_pos b n.toNat hs]
    rfl
  simp only [execOp, ho, Instr.index, hyv, hxv, Sem.run_bind, asIntOf, Sem.run_pure, Result.andThen_ok, hu, h0, if_true, hb]

end
end Go.Pt
