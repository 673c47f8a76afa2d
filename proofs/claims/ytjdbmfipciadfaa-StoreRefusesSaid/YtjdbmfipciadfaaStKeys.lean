/- The names of a map, put together in a row. -/import Derived.Test.YtjdbmfipciadfaaAmTab
import Derived.Test.YtjdbmfipciadfaaMa4
import Derived.KernelRfl
namespace Go.Proofs.Ytjdbmfipciadfaa.A
open Go Go.Pt
theorem range_vars {P : Program} {n₀ : Nat} {J : Jd} (hJ : J = std P n₀) {g : Operand} {ps : Array Tmp} {asg body : Code} {Q : Ex → St → Prop} {s : St} {f : FuncId} {caps : List AV} (hg : s.ev g = .func f caps)
    (h : ∀ p a b, p = ps.toList → a = asg → b = body → CallA P f (.yld (lenN s.hp) :: caps) (snoc s.hp (.lp p a b s.env s.n .ready none)) (rangeQ Q s (lenN s.hp)) (fun _ _ => False)) : J.code (.rangeFunc g ps asg body) Q s :=
  range_at hJ hg (h _ _ _ rfl rfl rfl)
theorem yield_vars {P : Program} {n₀ : Nat} {tab : Nat → Ty} {σ : List Ent} {J : Jd} (hJ : J = std P n₀) (ht : TabOk P tab) {i : Nat} {args : List AV} {K : AV → List Ent → Prop} {ps ps' : List Nat} {asg asg' body body' : Code} {env : List (Nat × AV)} {n : Nat} {pe : Option Code}
    (hi : nth σ i = some (.lp ps asg body env n .ready pe)) (h1 : ps = ps') (h2 : asg = asg') (h3 : body = body') (hl : beN (lenN ps') (lenN args) = true) (hp : allLt ps' n = true)
    (h : ∀ J, J = std P (lenN σ) → awp J tab asg' (asgQ J tab i body' K) ⟨zipEnv ps' args env, σ, n⟩) : J.yld i args σ K := by
  subst h1 h2 h3
  exact yield_at hJ ht hi hl hp h
def nav (k : ByteArray) : AV := .str k
def unnav : AV → ByteArray
  | .str b => b
  | _ => .empty
theorem perm_nav {ks : List AV} {ks0 : List ByteArray} (h : ks.Perm (ks0.map nav)) : ∃ l : List ByteArray, l.Perm ks0 ∧ ks = l.map nav := by
  refine ⟨ks.map unnav, ?_, ?_⟩
  · have := h.map unnav
    rw [List.map_map] at this
    rwa [show unnav ∘ nav = id from rfl, List.map_id] at this
  · rw [List.map_map]
    conv => lhs; rw [← List.map_id ks]
    refine List.map_congr_left fun k hk => ?_
    obtain ⟨k', _, rfl⟩ := List.mem_map.1 (h.mem_iff.1 hk)
    rfl
def tabS : Nat → Ty := fun t => match beN t 66 with | true => { tab t with md := 1 } | false => tab t
theorem tabS_ok : TabOk Try.prog tabS := tab_ok.md 66 1 rfl
def asgS : Code := .region 2
  #[{ dst := some 5, op := .assign (.tmp 7), type := 9, pos := "iter.go:51", after := #[], guard := none }] false
def bodyS : Code := .block 1 (.region 3
  #[{ dst := some 8, op := .load 66 (.tmp 2), type := 66, pos := "iter.go:52", after := #[], guard := none },
    { dst := some 9, op := .move (.tmp 5), type := 9, pos := "iter.go:52", after := #[], guard := none },
    { dst := some 10, op := .buildSlice 66 1 #[(0, .tmp 9)], type := 66, pos := "iter.go:52", after := #[{ on := 1, ground := .data }], guard := none },
    { dst := some 11, op := .call { callee := .builtin .append, args := #[.tmp 8, .tmp 10], argTypes := #[66, 66] }, type := 66, pos := "iter.go:52", after := #[{ on := 0, ground := .data }, { on := 2, ground := .data }], guard := none },
    { dst := none, op := .store 66 (.tmp 2) (.tmp 11), type := 0, pos := "iter.go:52", after := #[{ on := 3, ground := .data }, { on := 3, ground := .chain }, { on := 0, ground := .phase }, { on := 1, ground := .phase }, { on := 2, ground := .phase }, { on := 3, ground := .phase }], guard := none }] false)
def envS (g : Nat) : List (Nat × AV) := [(6, .func g [.ptr 1 0]), (4, .nils), (2, .ptr 2 0), (0, .nils), (1, .func g [.ptr 1 0])]
def TS (p : List Nat) (a b : Code) (e : List (Nat × AV)) (q : Int) (ks : List AV) : List Ent :=
  [.dead, .var [.mp 0], .var [.vs 5 1 0 q q], .lp p a b e 13 .ready none, .dead, .vec 1 ks]
set_option maxHeartbeats 8000000 in
set_option maxRecDepth 100000 in
theorem app_one {J : Jd} {n : Nat} (hJ : J = std Try.prog n) (g : Nat) (p : List Nat) (a b : Code) (hp : p = [7]) (ha : a = asgS) (hb : b = bodyS) (ks : List AV) (q : Int) (hq : q = ks.length) (k : ByteArray) (hl : ks.length < 2 ^ 42) (N : St → Prop)
    (h : ∀ env, Go.Pt.look env 5 = AV.ptr 4 0 → Go.Pt.look env 0 = AV.yld 3 → N ⟨env, [.dead, .var [.mp 0], .var [.vs 6 1 0 (q + 1) (q + 1)], .lp p a b (envS g) 13 .ready none, .dead, .dead, .vec 1 (ks ++ [nav k])], 14⟩) :
    aops J tabS (kR2 9 false).toList ((kR2 9 false).toList.drop 1) ⟨(8, .tup [nav k, .junk]) :: kEnv 4 3, TS p a b (envS g) q ks, 14⟩ (fun s => awp J tabS (kRest 9 179 4 false) (thenQ N (fun _ _ => False)) s) (fun _ _ => False) := by
  have hN := h
  clear h
  cbv
  repeat' (first
    | with_reducible exact id
    | exact trivial
    | intro hh
    | with_reducible refine And.intro ?_ ?_
    | (with_reducible first | refine awp_go2 ?_ | refine aops_go2 ?_ | refine strip_go2 ?_ | refine draw_go2 ?_ | refine frames_go2 ?_); cbv)
  refine yield_vars hJ tabS_ok rfl hp ha hb rfl rfl ?_
  intro J2 hJ2
  cbv
  repeat' (first
    | with_reducible exact id
    | exact trivial
    | intro hh
    | with_reducible refine And.intro ?_ ?_
    | (with_reducible first | refine awp_go2 ?_ | refine aops_go2 ?_ | refine strip_go2 ?_ | refine draw_go2 ?_ | refine frames_go2 ?_); cbv)
  all_goals have ho : J2.o = stdOps := by rw [hJ2]; rfl
  · show J2.o.is 0 0
    rw [ho]; simp [stdOps]
  · show J2.o.le 0 q
    rw [ho]; simp [stdOps, hq]
  · show J2.o.le q (J2.o.len ks)
    rw [ho]; simp [stdOps, hq]
  · show J2.o.room (J2.o.sub ks 0 q) [nav k] 16
    rw [ho]; simp [stdOps, hq]; omega
  · have e0 : J2.o.sub ks 0 q = ks := by rw [ho]; simp [stdOps, hq]
    have e : ∀ z : AV, J2.o.len (J2.o.apnd ks [z]) = q + 1 := fun z => by rw [ho]; simp [stdOps, hq]
    have e2 : ∀ z : AV, J2.o.apnd ks [z] = ks ++ [z] := fun z => by rw [ho]; simp [stdOps]
    show N ⟨_, [_, _, .var [.vs 6 1 0 (J2.o.len (J2.o.apnd (J2.o.sub ks 0 q) [nav k])) (J2.o.len (J2.o.apnd (J2.o.sub ks 0 q) [nav k]))], _, _, _, .vec 1 (J2.o.apnd (J2.o.sub ks 0 q) [nav k])], _⟩
    rw [e0, e, e2]
    exact hN _ rfl rfl
theorem turn_one {g : Nat} {p : List Nat} {a b : Code} {q : Int} {ks : List AV} {env : List (Nat × AV)} (h5 : Go.Pt.look env 5 = AV.ptr 4 0) (h0 : Go.Pt.look env 0 = AV.yld 3) :
    Turn 5 ⟨env, [.dead, .var [.mp 0], .var [.vs 6 1 0 q q], .lp p a b (envS g) 13 .ready none, .dead, .dead, .vec 1 ks], 14⟩ ⟨kEnv 4 3, TS p a b (envS g) q ks, 14⟩ := by
  intro ρ x w hs
  have hs' : RelS ρ ⟨kEnv 4 3, [.dead, .var [.mp 0], .var [.vs 6 1 0 q q], .lp p a b (envS g) 13 .ready none, .dead, .dead, .vec 1 ks], 14⟩ x w := ⟨hs.defers, hs.size, hs.rel, fun t => by
    by_cases e5 : t = 5
    · subst e5; have := hs.vals 5; rw [show Go.Pt.look (St.mk env _ 14).env 5 = AV.ptr 4 0 from h5] at this; exact this
    · by_cases e0 : t = 0
      · subst e0; have := hs.vals 0; rw [show Go.Pt.look (St.mk env _ 14).env 0 = AV.yld 3 from h0] at this; exact this
      · have : Go.Pt.look (kEnv 4 3) t = AV.junk := by
          have n5 : beN 5 t = false := by cases hb : beN 5 t with | false => rfl | true => exact absurd (beN_t hb).symm e5
          have n0 : beN 0 t = false := by cases hb : beN 0 t with | false => rfl | true => exact absurd (beN_t hb).symm e0
          simp [kEnv, Go.Pt.look, n5, n0]
        show Val _ _ _ _ (Go.Pt.look (kEnv 4 3) t) _
        rw [this]; exact Val.junk⟩
  have := Turn.pack (n₀ := 5) (s := ⟨kEnv 4 3, [.dead, .var [.mp 0], .var [.vs 6 1 0 q q], .lp p a b (envS g) 13 .ready none, .dead, .dead, .vec 1 ks], 14⟩) [6] (by decide) (Nat.le_add_left 5 2) ρ x w hs'
  exact this
theorem app_keys {g mt et : Nat} {fn : Func} (hf : Try.prog.funcs[g]? = some fn) (hb : fn.body = some (keysCode mt 9 179 4 false)) (hname : (fn.name == "runtime.NumGoroutine") = false) (hnt : fn.ntmps = 14) (hres : fn.results = #[]) (hmt : Try.prog.underlying mt = some (.map 9 et))
    (p : List Nat) (a b : Code) (hp : p = [7]) (ha : a = asgS) (hbd : b = bodyS) (es : List (AV × AV)) (ks0 : List (ByteArray)) (hes : es.map Prod.fst = ks0.map nav) (hlen : ks0.length < 2 ^ 42) (K E : AV → List Ent → Prop)
    (hload : ∀ J, J = std Try.prog 4 → aops J tabS (kR0 mt).toList [{ dst := some 4, op := .load mt (.tmp 1), type := mt, pos := "iter.go:27", after := #[], guard := none }] ⟨argEnv 0 [.yld 3, .ptr 1 0], [.mp es, .var [.mp 0], .var [.nils], .lp p a b (envS g) 13 .ready none], 14⟩
      (fun s' => ∃ env, s' = ⟨env, [.mp es, .var [.mp 0], .var [.nils], .lp p a b (envS g) 13 .ready none], 14⟩ ∧ Go.Pt.look env 4 = .mp 0 ∧ Go.Pt.look env 0 = .yld 3) (fun _ _ => False))
    (h : ∀ (l : List (ByteArray)) (q : Int), q = l.length → l.Perm ks0 → ∀ r, K r [.mp es, .var [.mp 0], .var [.vs 4 1 0 q q], .lp p a b (envS g) 13 .ready none, .vec 1 (l.map nav)]) :
    CallA Try.prog g [.yld 3, .ptr 1 0] [.mp es, .var [.mp 0], .var [.nils], .lp p a b (envS g) 13 .ready none] K E := by
  have hq : ∀ ks, ks.Perm (es.map Prod.fst) → retQ tabS fn.results.toList (rangeN 4 ++ [5]) K E .normal ⟨[(0, .yld 3)], setN (TS p a b (envS g) ks.length ks) 0 (.mp es), 14⟩ := by
    intro ks hks
    rw [hes] at hks
    obtain ⟨l, hl, rfl⟩ : ∃ l : List (ByteArray), l.Perm ks0 ∧ ks = l.map nav := perm_nav hks
    rw [hres]
    have := h l ((l.map nav).length : Nat) (by simp) hl
    exact this _
  refine call_of_code (n₀ := 4) tabS_ok (Q := fun x s => retQ tabS fn.results.toList (rangeN 4 ++ [5]) K E x s) (fun x s0 hx => ⟨s0, .inl rfl, [5], by decide, hx⟩) hf hb hname rfl (by rw [hnt]; decide) ?_
  rw [hnt]
  refine keys_code (σ := [.mp es, .var [.mp 0], .var [.nils], .lp p a b (envS g) 13 .ready none]) tabS_ok hmt rfl (m := 0) (es := es) rfl (fun ks => TS p a b (envS g) ks.length ks) (fun _ => Nat.le_succ 5) (fun _ => rfl) hload ?_ ?_ hq
  · have := turn_nil (n₀ := 5) (s := ⟨kEnv 4 3, setN (snoc [.mp es, .var [.mp 0], .var [.nils], .lp p a b (envS g) 13 .ready none] .dead) 0 .dead, 14⟩) 2 0 1 (cs := [.nils]) rfl rfl (Nat.le_refl 5)
    exact this
  · intro J hJ ks k ⟨rest, hr⟩ N hN
    have hk : k ∈ ks0.map nav := by rw [← hes]; exact hr.mem_iff.1 (by simp)
    obtain ⟨k', _, rfl⟩ := List.mem_map.1 hk
    have hl := hr.length_eq
    rw [hes] at hl
    simp only [List.length_append, List.length_cons, List.length_map] at hl
    refine app_one hJ g p a b hp ha hbd ks ks.length rfl k' (by omega) N fun env h5 h0 => hN _ ?_
    have := turn_one (g := g) (p := p) (a := a) (b := b) (q := (ks.length : Int) + 1) (ks := ks ++ [nav k']) h5 h0
    have e : (((ks ++ [nav k']).length : Nat) : Int) = (ks.length : Int) + 1 := by simp
    show Turn 5 _ ⟨kEnv 4 3, TS p a b (envS g) (((ks ++ [nav k']).length : Nat) : Int) (ks ++ [nav k']), 14⟩
    rw [e]; exact this
set_option maxHeartbeats 8000000 in
set_option maxRecDepth 100000 in
theorem load_156 (es : List (AV × AV)) (p : List Nat) (a b : Code) (J : Jd) (_hJ : J = std Try.prog 4) : aops J tabS (kR0 116).toList [{ dst := some 4, op := .load 116 (.tmp 1), type := 116, pos := "iter.go:27", after := #[], guard := none }] ⟨argEnv 0 [.yld 3, .ptr 1 0], [.mp es, .var [.mp 0], .var [.nils], .lp p a b (envS 156) 13 .ready none], 14⟩
      (fun s' => ∃ env, s' = ⟨env, [.mp es, .var [.mp 0], .var [.nils], .lp p a b (envS 156) 13 .ready none], 14⟩ ∧ Go.Pt.look env 4 = .mp 0 ∧ Go.Pt.look env 0 = .yld 3) (fun _ _ => False) := by
  generalize hN : (fun s' : St => ∃ env, s' = ⟨env, [.mp es, .var [.mp 0], .var [.nils], .lp p a b (envS 156) 13 .ready none], 14⟩ ∧ Go.Pt.look env 4 = .mp 0 ∧ Go.Pt.look env 0 = .yld 3) = N
  cbv
  subst hN
  exact ⟨_, rfl, rfl, rfl⟩
def Names1 (g : Nat) : Prop := ∀ (p : List Nat) (a b : Code) (_ : p = [7]) (_ : a = asgS) (_ : b = bodyS) (es : List (AV × AV)) (ks0 : List (ByteArray)) (_ : es.map Prod.fst = ks0.map nav) (_ : ks0.length < 2 ^ 42) (K E : AV → List Ent → Prop)
    (_ : ∀ (l : List (ByteArray)) (q : Int), q = l.length → l.Perm ks0 → ∀ r, K r [.mp es, .var [.mp 0], .var [.vs 4 1 0 q q], .lp p a b (envS g) 13 .ready none, .vec 1 (l.map nav)]),
    CallA Try.prog g [.yld 3, .ptr 1 0] [.mp es, .var [.mp 0], .var [.nils], .lp p a b (envS g) 13 .ready none] K E
theorem keys_156 : Names1 156 := fun p a b hp ha hb es ks0 hes hlen K E h =>
  app_keys (mt := 116) (et := 142) Try.func156 rfl rfl rfl rfl (by kernel_rfl) p a b hp ha hb es ks0 hes hlen K E (load_156 es p a b) h
set_option maxHeartbeats 8000000 in
set_option maxRecDepth 100000 in
theorem f164_call {g : Nat} (hg : Names1 g) (es : List (AV × AV)) (ks0 : List (ByteArray)) (hes : es.map Prod.fst = ks0.map nav) (hlen : ks0.length < 2 ^ 42) (K E : AV → List Ent → Prop)
    (h : ∀ (l : List (ByteArray)) (q : Int), q = l.length → l.Perm ks0 → K (.vs 2 1 0 q q) [.mp es, .var [.mp 0], .vec 1 (l.map nav)]) :
    CallA Try.prog 164 [.nils, .func g [.ptr 1 0]] [.mp es, .var [.mp 0]] K E := by
  refine call_fn (n₀ := 2) tabS_ok [4] Try.func164 rfl rfl rfl rfl (by decide) ?_
  intro J hJ
  cbv
  repeat' (first
    | with_reducible exact id
    | exact trivial
    | intro hh
    | with_reducible refine And.intro ?_ ?_
    | (with_reducible first | refine awp_go2 ?_ | refine aops_go2 ?_ | refine strip_go2 ?_ | refine draw_go2 ?_ | refine frames_go2 ?_); cbv)
  refine range_vars hJ rfl ?_
  intro p a b hp ha hb
  refine hg p a b hp ha hb es ks0 hes hlen _ _ ?_
  intro l q hq hl r
  have hh := h l q hq hl
  generalize l.map nav = L at hh ⊢
  cbv
  repeat' (first
    | with_reducible exact id
    | exact trivial
    | intro hh
    | with_reducible refine And.intro ?_ ?_
    | (with_reducible first | refine awp_go2 ?_ | refine aops_go2 ?_ | refine strip_go2 ?_ | refine draw_go2 ?_ | refine frames_go2 ?_); cbv)
  exact hh
set_option maxHeartbeats 8000000 in
set_option maxRecDepth 100000 in
theorem f154_call {g : Nat} (hg : Names1 g) (es : List (AV × AV)) (ks0 : List (ByteArray)) (hes : es.map Prod.fst = ks0.map nav) (hlen : ks0.length < 2 ^ 42) (K E : AV → List Ent → Prop)
    (h : ∀ (l : List (ByteArray)) (q : Int), q = l.length → l.Perm ks0 → K (.vs 2 1 0 q q) [.mp es, .var [.mp 0], .vec 1 (l.map nav)]) :
    CallA Try.prog 154 [.func g [.ptr 1 0]] [.mp es, .var [.mp 0]] K E := by
  refine call_fn (n₀ := 2) tabS_ok [2] Try.func154 rfl rfl rfl rfl (by decide) ?_
  intro J hJ
  cbv
  refine call_in hJ [0, 1] (by decide) rfl rfl rfl (f164_call hg es ks0 hes hlen _ _ fun l q hq hl => ?_)
  have hh := h l q hq hl
  generalize l.map nav = L at hh ⊢
  cbv
  repeat' (first
    | with_reducible exact id
    | exact trivial
    | intro hh
    | with_reducible refine And.intro ?_ ?_
    | (with_reducible first | refine awp_go2 ?_ | refine aops_go2 ?_ | refine strip_go2 ?_ | refine draw_go2 ?_ | refine frames_go2 ?_); cbv)
  exact hh
end Go.Proofs.Ytjdbmfipciadfaa.A
