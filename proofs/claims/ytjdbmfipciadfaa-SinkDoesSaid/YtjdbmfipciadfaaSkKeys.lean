/- The keys of a map, put together in a row. -/
import Derived.Test.YtjdbmfipciadfaaAmTab
import Derived.Test.YtjdbmfipciadfaaMa3
import Derived.KernelRfl

namespace Go.Proofs.Ytjdbmfipciadfaa.A
open Go Go.Pt

theorem range_vars {P : Program} {n₀ : Nat} {J : Jd} (hJ : J = std P n₀) {g : Operand} {ps : Array Tmp} {asg body : Code} {Q : Ex → St → Prop} {s : St} {f : FuncId} {caps : List AV} (hg : s.ev g = .func f caps)
    (h : ∀ p a b, p = ps.toList → a = asg → b = body → CallA P f (.yld (lenN s.hp) :: caps) (snoc s.hp (.lp p a b s.env s.n .ready none)) (rangeQ Q s (lenN s.hp)) (fun _ _ => False)) : J.code (.rangeFunc g ps asg body) Q s :=
  range_at hJ hg (h _ _ _ rfl rfl rfl)
theorem yield_vars {P : Program} {n₀ : Nat} {tab : Nat → Ty} {σ : List Ent} {J : Jd} (hJ : J = std P n₀) (ht : TabOk P tab) {i : Nat} {args : List AV} {K : AV → List Ent → Prop} {ps ps' : List Nat} {asg asg' body body' : Code} {env : List (Nat × AV)} {n : Nat} {pe : Option Code}
    (hi : nth σ i = some (.lp ps asg body env n .ready pe)) (h1 : ps = ps') (h2 : asg = asg') (h3 : body = body') (hl : beN (lenN ps') (lenN args) = true) (hp : allLt ps' n = true)
    (h : ∀ J, J = std P (lenN σ) → awp J tab asg' (asgQ J tab i body' K) ⟨zipEnv ps' args env, σ, n⟩) : J.yld i args σ K := by
  subst h1 h2 h3
  exact yield_at hJ ht hi hl hp h

def kav (k : Int × Int) : AV := .agg [.int .i64 k.1, .int .i64 k.2]

def unkav : AV → Int × Int
  | .agg [.int _ a, .int _ b] => (a, b)
  | _ => (0, 0)
theorem perm_kav {ks : List AV} {ks0 : List (Int × Int)} (h : ks.Perm (ks0.map kav)) : ∃ l : List (Int × Int), l.Perm ks0 ∧ ks = l.map kav := by
  refine ⟨ks.map unkav, ?_, ?_⟩
  · have := h.map unkav
    rw [List.map_map] at this
    rwa [show unkav ∘ kav = id from rfl, List.map_id] at this
  · rw [List.map_map]
    conv => lhs; rw [← List.map_id ks]
    refine List.map_congr_left fun k hk => ?_
    obtain ⟨k', _, rfl⟩ := List.mem_map.1 (h.mem_iff.1 hk)
    rfl

/-- The table, slices of keys being rows. -/
def tabK : Nat → Ty := fun t => match beN t 111 with | true => { tab t with md := 1 } | false => tab t
theorem tabK_ok : TabOk Try.prog tabK := tab_ok.md 111 1 rfl

def asgA : Code := .region 2
  #[{ dst := some 5, op := .alloc 37, type := 0, pos := "iter.go:51", after := #[], guard := none },
    { dst := none, op := .store 37 (.tmp 5) (.tmp 7), type := 0, pos := "iter.go:51", after := #[{ on := 0, ground := .data }, { on := 0, ground := .phase }], guard := none }] false
def bodyA : Code := .block 1 (.region 3
  #[{ dst := some 8, op := .load 111 (.tmp 2), type := 111, pos := "iter.go:52", after := #[], guard := none },
    { dst := some 9, op := .load 37 (.tmp 5), type := 37, pos := "iter.go:52", after := #[], guard := none },
    { dst := some 10, op := .buildSlice 111 1 #[(0, .tmp 9)], type := 111, pos := "iter.go:52", after := #[{ on := 1, ground := .data }], guard := none },
    { dst := some 11, op := .call { callee := .builtin .append, args := #[.tmp 8, .tmp 10], argTypes := #[111, 111] }, type := 111, pos := "iter.go:52", after := #[{ on := 0, ground := .data }, { on := 2, ground := .data }], guard := none },
    { dst := none, op := .store 111 (.tmp 2) (.tmp 11), type := 0, pos := "iter.go:52", after := #[{ on := 3, ground := .data }, { on := 3, ground := .chain }, { on := 0, ground := .phase }, { on := 1, ground := .phase }, { on := 2, ground := .phase }, { on := 3, ground := .phase }], guard := none }] false)

def envA (g : Nat) : List (Nat × AV) := [(6, .func g [.ptr 1 0]), (4, .nils), (2, .ptr 2 0), (0, .nils), (1, .func g [.ptr 1 0])]

/-- The heap between two rounds. -/
def TA (p : List Nat) (a b : Code) (e : List (Nat × AV)) (q : Int) (ks : List AV) : List Ent :=
  [.dead, .var [.mp 0], .var [.vs 5 2 0 q q], .lp p a b e 13 .ready none, .dead, .vec 2 ks]

set_option maxHeartbeats 8000000 in
set_option maxRecDepth 100000 in
theorem app_one {J : Jd} {n : Nat} (hJ : J = std Try.prog n) (g : Nat) (p : List Nat) (a b : Code) (hp : p = [7]) (ha : a = asgA) (hb : b = bodyA) (ks : List AV) (q : Int) (hq : q = ks.length) (k : Int × Int) (hl : ks.length < 2 ^ 42) (N : St → Prop)
    (h : ∀ env v w, Go.Pt.look env 5 = AV.ptr 4 0 → Go.Pt.look env 0 = AV.yld 3 → N ⟨env, [.dead, .var [.mp 0], .var [.vs 8 2 0 (q + 1) (q + 1)], .lp p a b (envA g) 13 .ready none, .dead, .dead, v, w, .vec 2 (ks ++ [kav k])], 14⟩) :
    aops J tabK (kR2 37).toList ((kR2 37).toList.drop 1) ⟨(8, .tup [kav k, .junk]) :: kEnv 4 3, TA p a b (envA g) q ks, 14⟩ (fun s => awp J tabK (kRest 37 46 4) (thenQ N (fun _ _ => False)) s) (fun _ _ => False) := by
  have hN := h
  clear h
  cbv
  repeat' (first
    | with_reducible exact id
    | exact trivial
    | intro hh
    | with_reducible refine And.intro ?_ ?_
    | (with_reducible first | refine awp_go2 ?_ | refine aops_go2 ?_ | refine strip_go2 ?_ | refine draw_go2 ?_ | refine frames_go2 ?_); cbv)
  refine yield_vars hJ tabK_ok rfl hp ha hb rfl rfl ?_
  intro J2 hJ2
  cbv
  repeat' (first
    | with_reducible exact id
    | exact trivial
    | intro hh
    | with_reducible refine And.intro ?_ ?_
    | (with_reducible first | refine awp_go2 ?_ | refine aops_go2 ?_ | refine strip_go2 ?_ | refine draw_go2 ?_ | refine frames_go2 ?_); cbv)
  all_goals have ho : J2.o = stdOps := by rw [hJ2]; rfl
  · show J2.o.is 0 0
    rw [ho]; simp [stdOps]
  · show J2.o.is q (J2.o.len ks)
    rw [ho]; simp [stdOps, hq]
  · show J2.o.room ks [kav k] 16
    rw [ho]; simp [stdOps]; omega
  · have e : ∀ z : AV, J2.o.len (J2.o.apnd ks [z]) = q + 1 := fun z => by rw [ho]; simp [stdOps, hq]
    have e2 : ∀ z : AV, J2.o.apnd ks [z] = ks ++ [z] := fun z => by rw [ho]; simp [stdOps]
    show N ⟨_, [_, _, .var [.vs 8 2 0 (J2.o.len (J2.o.apnd ks [kav k])) (J2.o.len (J2.o.apnd ks [kav k]))], _, _, _, _, _, .vec 2 (J2.o.apnd ks [kav k])], _⟩
    rw [e, e2]
    exact hN _ _ _ rfl rfl

theorem turn_one {g : Nat} {p : List Nat} {a b : Code} {q : Int} {ks : List AV} {env : List (Nat × AV)} {v v' : Ent} (h5 : Go.Pt.look env 5 = AV.ptr 4 0) (h0 : Go.Pt.look env 0 = AV.yld 3) :
    Turn 5 ⟨env, [.dead, .var [.mp 0], .var [.vs 8 2 0 q q], .lp p a b (envA g) 13 .ready none, .dead, .dead, v, v', .vec 2 ks], 14⟩ ⟨kEnv 4 3, TA p a b (envA g) q ks, 14⟩ := by
  intro ρ x w hs
  have hs' : RelS ρ ⟨kEnv 4 3, [.dead, .var [.mp 0], .var [.vs 8 2 0 q q], .lp p a b (envA g) 13 .ready none, .dead, .dead, v, v', .vec 2 ks], 14⟩ x w := ⟨hs.defers, hs.size, hs.rel, fun t => by
    by_cases e5 : t = 5
    · subst e5; have := hs.vals 5; rw [show Go.Pt.look (St.mk env _ 14).env 5 = AV.ptr 4 0 from h5] at this; exact this
    · by_cases e0 : t = 0
      · subst e0; have := hs.vals 0; rw [show Go.Pt.look (St.mk env _ 14).env 0 = AV.yld 3 from h0] at this; exact this
      · have : Go.Pt.look (kEnv 4 3) t = AV.junk := by
          have n5 : beN 5 t = false := by cases hb : beN 5 t with | false => rfl | true => exact absurd (beN_t hb).symm e5
          have n0 : beN 0 t = false := by cases hb : beN 0 t with | false => rfl | true => exact absurd (beN_t hb).symm e0
          simp [kEnv, Go.Pt.look, n5, n0]
        show Val _ _ _ _ (Go.Pt.look (kEnv 4 3) t) _
        rw [this]; exact Val.junk⟩
  have := Turn.pack (n₀ := 5) (s := ⟨kEnv 4 3, [.dead, .var [.mp 0], .var [.vs 8 2 0 q q], .lp p a b (envA g) 13 .ready none, .dead, .dead, v, v', .vec 2 ks], 14⟩) [8] (by decide) (Nat.le_add_left 5 4) ρ x w hs'
  exact this

/-- maps.Keys's iterator, put together by slices.AppendSeq. -/
theorem app_keys {g mt et : Nat} {fn : Func} (hf : Try.prog.funcs[g]? = some fn) (hb : fn.body = some (keysCode mt 37 46 4)) (hname : (fn.name == "runtime.NumGoroutine") = false) (hnt : fn.ntmps = 14) (hres : fn.results = #[]) (hmt : Try.prog.underlying mt = some (.map 37 et))
    (p : List Nat) (a b : Code) (hp : p = [7]) (ha : a = asgA) (hbd : b = bodyA) (es : List (AV × AV)) (ks0 : List (Int × Int)) (hes : es.map Prod.fst = ks0.map kav) (hlen : ks0.length < 2 ^ 42) (K E : AV → List Ent → Prop)
    (hload : ∀ J, J = std Try.prog 4 → aops J tabK (kR0 mt).toList [{ dst := some 4, op := .load mt (.tmp 1), type := mt, pos := "iter.go:27", after := #[], guard := none }] ⟨argEnv 0 [.yld 3, .ptr 1 0], [.mp es, .var [.mp 0], .var [.nils], .lp p a b (envA g) 13 .ready none], 14⟩
      (fun s' => ∃ env, s' = ⟨env, [.mp es, .var [.mp 0], .var [.nils], .lp p a b (envA g) 13 .ready none], 14⟩ ∧ Go.Pt.look env 4 = .mp 0 ∧ Go.Pt.look env 0 = .yld 3) (fun _ _ => False))
    (h : ∀ (l : List (Int × Int)) (q : Int), q = l.length → l.Perm ks0 → ∀ r, K r [.mp es, .var [.mp 0], .var [.vs 4 2 0 q q], .lp p a b (envA g) 13 .ready none, .vec 2 (l.map kav)]) :
    CallA Try.prog g [.yld 3, .ptr 1 0] [.mp es, .var [.mp 0], .var [.nils], .lp p a b (envA g) 13 .ready none] K E := by
  have hq : ∀ ks, ks.Perm (es.map Prod.fst) → retQ tabK fn.results.toList (rangeN 4 ++ [5]) K E .normal ⟨[(0, .yld 3)], setN (TA p a b (envA g) ks.length ks) 0 (.mp es), 14⟩ := by
    intro ks hks
    rw [hes] at hks
    obtain ⟨l, hl, rfl⟩ : ∃ l : List (Int × Int), l.Perm ks0 ∧ ks = l.map kav := perm_kav hks
    rw [hres]
    have := h l ((l.map kav).length : Nat) (by simp) hl
    exact this _
  refine call_of_code (n₀ := 4) tabK_ok (Q := fun x s => retQ tabK fn.results.toList (rangeN 4 ++ [5]) K E x s) (fun x s0 hx => ⟨s0, .inl rfl, [5], by decide, hx⟩) hf hb hname rfl (by rw [hnt]; decide) ?_
  rw [hnt]
  refine keys_code (σ := [.mp es, .var [.mp 0], .var [.nils], .lp p a b (envA g) 13 .ready none]) tabK_ok hmt rfl (m := 0) (es := es) rfl (fun ks => TA p a b (envA g) ks.length ks) (fun _ => Nat.le_succ 5) (fun _ => rfl) hload ?_ ?_ hq
  · have := turn_nil (n₀ := 5) (s := ⟨kEnv 4 3, setN (snoc [.mp es, .var [.mp 0], .var [.nils], .lp p a b (envA g) 13 .ready none] .dead) 0 .dead, 14⟩) 2 0 2 (cs := [.nils]) rfl rfl (Nat.le_refl 5)
    exact this
  · intro J hJ ks k ⟨rest, hr⟩ N hN
    have hk : k ∈ ks0.map kav := by rw [← hes]; exact hr.mem_iff.1 (by simp)
    obtain ⟨k', _, rfl⟩ := List.mem_map.1 hk
    have hl := hr.length_eq
    rw [hes] at hl
    simp only [List.length_append, List.length_cons, List.length_map] at hl
    refine app_one hJ g p a b hp ha hbd ks ks.length rfl k' (by omega) N fun env v w h5 h0 => hN _ ?_
    have := turn_one (g := g) (p := p) (a := a) (b := b) (q := (ks.length : Int) + 1) (ks := ks ++ [kav k']) (v := v) (v' := w) h5 h0
    have e : (((ks ++ [kav k']).length : Nat) : Int) = (ks.length : Int) + 1 := by simp
    show Turn 5 _ ⟨kEnv 4 3, TA p a b (envA g) (((ks ++ [kav k']).length : Nat) : Int) (ks ++ [kav k']), 14⟩
    rw [e]; exact this

def mapT (g : Nat) : Nat := match beN g 152 with | true => 102 | false => 103

set_option maxHeartbeats 8000000 in
set_option maxRecDepth 100000 in
theorem load_152 (es : List (AV × AV)) (p : List Nat) (a b : Code) (J : Jd) (_hJ : J = std Try.prog 4) : aops J tabK (kR0 102).toList [{ dst := some 4, op := .load 102 (.tmp 1), type := 102, pos := "iter.go:27", after := #[], guard := none }] ⟨argEnv 0 [.yld 3, .ptr 1 0], [.mp es, .var [.mp 0], .var [.nils], .lp p a b (envA 152) 13 .ready none], 14⟩
      (fun s' => ∃ env, s' = ⟨env, [.mp es, .var [.mp 0], .var [.nils], .lp p a b (envA 152) 13 .ready none], 14⟩ ∧ Go.Pt.look env 4 = .mp 0 ∧ Go.Pt.look env 0 = .yld 3) (fun _ _ => False) := by
  generalize hN : (fun s' : St => ∃ env, s' = ⟨env, [.mp es, .var [.mp 0], .var [.nils], .lp p a b (envA 152) 13 .ready none], 14⟩ ∧ Go.Pt.look env 4 = .mp 0 ∧ Go.Pt.look env 0 = .yld 3) = N
  cbv
  subst hN
  exact ⟨_, rfl, rfl, rfl⟩
set_option maxHeartbeats 8000000 in
set_option maxRecDepth 100000 in
theorem load_153 (es : List (AV × AV)) (p : List Nat) (a b : Code) (J : Jd) (_hJ : J = std Try.prog 4) : aops J tabK (kR0 103).toList [{ dst := some 4, op := .load 103 (.tmp 1), type := 103, pos := "iter.go:27", after := #[], guard := none }] ⟨argEnv 0 [.yld 3, .ptr 1 0], [.mp es, .var [.mp 0], .var [.nils], .lp p a b (envA 153) 13 .ready none], 14⟩
      (fun s' => ∃ env, s' = ⟨env, [.mp es, .var [.mp 0], .var [.nils], .lp p a b (envA 153) 13 .ready none], 14⟩ ∧ Go.Pt.look env 4 = .mp 0 ∧ Go.Pt.look env 0 = .yld 3) (fun _ _ => False) := by
  generalize hN : (fun s' : St => ∃ env, s' = ⟨env, [.mp es, .var [.mp 0], .var [.nils], .lp p a b (envA 153) 13 .ready none], 14⟩ ∧ Go.Pt.look env 4 = .mp 0 ∧ Go.Pt.look env 0 = .yld 3) = N
  cbv
  subst hN
  exact ⟨_, rfl, rfl, rfl⟩

/-- What maps.Keys's iterator does in slices.AppendSeq, for the two maps. -/
def Keys1 (g : Nat) : Prop := ∀ (p : List Nat) (a b : Code) (_ : p = [7]) (_ : a = asgA) (_ : b = bodyA) (es : List (AV × AV)) (ks0 : List (Int × Int)) (_ : es.map Prod.fst = ks0.map kav) (_ : ks0.length < 2 ^ 42) (K E : AV → List Ent → Prop)
    (_ : ∀ (l : List (Int × Int)) (q : Int), q = l.length → l.Perm ks0 → ∀ r, K r [.mp es, .var [.mp 0], .var [.vs 4 2 0 q q], .lp p a b (envA g) 13 .ready none, .vec 2 (l.map kav)]),
    CallA Try.prog g [.yld 3, .ptr 1 0] [.mp es, .var [.mp 0], .var [.nils], .lp p a b (envA g) 13 .ready none] K E
theorem keys_152 : Keys1 152 := fun p a b hp ha hb es ks0 hes hlen K E h =>
  app_keys (mt := 102) (et := 4) Try.func152 rfl rfl rfl rfl (by kernel_rfl) p a b hp ha hb es ks0 hes hlen K E (load_152 es p a b) h
theorem keys_153 : Keys1 153 := fun p a b hp ha hb es ks0 hes hlen K E h =>
  app_keys (mt := 103) (et := 31) Try.func153 rfl rfl rfl rfl (by kernel_rfl) p a b hp ha hb es ks0 hes hlen K E (load_153 es p a b) h

set_option maxHeartbeats 8000000 in
set_option maxRecDepth 100000 in
/-- slices.AppendSeq. -/
theorem f161_call {g : Nat} (hg : Keys1 g) (es : List (AV × AV)) (ks0 : List (Int × Int)) (hes : es.map Prod.fst = ks0.map kav) (hlen : ks0.length < 2 ^ 42) (K E : AV → List Ent → Prop)
    (h : ∀ (l : List (Int × Int)) (q : Int), q = l.length → l.Perm ks0 → K (.vs 2 2 0 q q) [.mp es, .var [.mp 0], .vec 2 (l.map kav)]) :
    CallA Try.prog 161 [.nils, .func g [.ptr 1 0]] [.mp es, .var [.mp 0]] K E := by
  refine call_fn (n₀ := 2) tabK_ok [4] Try.func161 rfl rfl rfl rfl (by decide) ?_
  intro J hJ
  cbv
  repeat' (first
    | with_reducible exact id
    | exact trivial
    | intro hh
    | with_reducible refine And.intro ?_ ?_
    | (with_reducible first | refine awp_go2 ?_ | refine aops_go2 ?_ | refine strip_go2 ?_ | refine draw_go2 ?_ | refine frames_go2 ?_); cbv)
  refine range_vars hJ rfl ?_
  intro p a b hp ha hb
  refine hg p a b hp ha hb es ks0 hes hlen _ _ ?_
  intro l q hq hl r
  have hh := h l q hq hl
  generalize l.map kav = L at hh ⊢
  cbv
  repeat' (first
    | with_reducible exact id
    | exact trivial
    | intro hh
    | with_reducible refine And.intro ?_ ?_
    | (with_reducible first | refine awp_go2 ?_ | refine aops_go2 ?_ | refine strip_go2 ?_ | refine draw_go2 ?_ | refine frames_go2 ?_); cbv)
  exact hh

set_option maxHeartbeats 8000000 in
set_option maxRecDepth 100000 in
/-- slices.Collect. -/
theorem f150_call {g : Nat} (hg : Keys1 g) (es : List (AV × AV)) (ks0 : List (Int × Int)) (hes : es.map Prod.fst = ks0.map kav) (hlen : ks0.length < 2 ^ 42) (K E : AV → List Ent → Prop)
    (h : ∀ (l : List (Int × Int)) (q : Int), q = l.length → l.Perm ks0 → K (.vs 2 2 0 q q) [.mp es, .var [.mp 0], .vec 2 (l.map kav)]) :
    CallA Try.prog 150 [.func g [.ptr 1 0]] [.mp es, .var [.mp 0]] K E := by
  refine call_fn (n₀ := 2) tabK_ok [2] Try.func150 rfl rfl rfl rfl (by decide) ?_
  intro J hJ
  cbv
  refine call_in hJ [0, 1] (by decide) rfl rfl rfl (f161_call hg es ks0 hes hlen _ _ fun l q hq hl => ?_)
  have hh := h l q hq hl
  generalize l.map kav = L at hh ⊢
  cbv
  repeat' (first
    | with_reducible exact id
    | exact trivial
    | intro hh
    | with_reducible refine And.intro ?_ ?_
    | (with_reducible first | refine awp_go2 ?_ | refine aops_go2 ?_ | refine strip_go2 ?_ | refine draw_go2 ?_ | refine frames_go2 ?_); cbv)
  exact hh
end Go.Proofs.Ytjdbmfipciadfaa.A
