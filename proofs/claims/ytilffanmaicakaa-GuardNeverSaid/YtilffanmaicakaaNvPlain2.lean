/- Letters and maps as the machine has them; the ends of each way through comes and moves. -/
import Derived.Test.YtilffanmaicakaaNvPure
import Derived.Test.YtilffanmaicakaaNvDel
namespace Go.Nv
open Go Go.Pt Go.Gd Go.Ls

def Lt.av (x : Lt) : AV := .agg [.int .i64 x.r, .bool x.b, .int .i64 x.k, .int .i64 x.s, .int .i64 x.e]
def encP (x : Int × Int × Int) : AV × AV := (.int .i64 x.1, .agg [.int .i64 x.2.1, .int .i64 x.2.2])
def encM (m : List (Int × Int × Int)) : List (AV × AV) := m.map encP

theorem mfind_enc (k : Int) : ∀ m, Pt.mfind (encM m) (.int .i64 k) = (find m k).map fun v => .agg [.int .i64 v.1, .int .i64 v.2]
  | [] => rfl
  | x :: r => by
    have ih := mfind_enc k r
    simp only [encM, encP, List.map_cons, Pt.mfind, find] at ih ⊢
    by_cases h : k = x.1
    · simp [keq, keqL, keqC, AV.cells, h]
    · simp [keq, keqL, keqC, AV.cells, h]; exact ih
theorem mput_enc (k a o : Int) : ∀ m, Pt.mput (encM m) (.int .i64 k) (.agg [.int .i64 a, .int .i64 o]) = encM (put m k (a, o))
  | [] => rfl
  | x :: r => by
    have ih := mput_enc k a o r
    simp only [encM, encP, List.map_cons, Pt.mput, put] at ih ⊢
    by_cases h : k = x.1
    · simp [keq, keqL, keqC, AV.cells, h, encP]
    · simp [keq, keqL, keqC, AV.cells, h, encP]; exact ih
theorem mok_enc (m : List (Int × Int × Int)) : ∀ x ∈ encM m, keyOk false [.int .i64] x.1 = true := by
  intro x hx
  simp only [encM, List.mem_map] at hx
  obtain ⟨y, _, rfl⟩ := hx
  rfl


def Len (bag : List Lt) (n : Int) : Prop := (bag.length : Int) ≤ n
def IsLen (N : Int) (bag : List Lt) : Prop := N = (bag.length : Int)

theorem apnd_eq {bag : List Lt} {xs : List AV} {r k s e : Int} {b : Bool} (hx : xs = bag.map Lt.av) : xs ++ [.agg [.int .i64 r, .bool b, .int .i64 k, .int .i64 s, .int .i64 e]] = (bag ++ [(⟨r, b, k, s, e⟩ : Lt)]).map Lt.av := by subst hx; simp [Lt.av]

theorem bag_sub {B bag : List Lt} (hB : ∀ w ∈ bag, w ∈ B) (y : Lt) : ∀ w ∈ bag ++ [y], w ∈ B ++ [y] := by
  intro w hw
  rcases mem_snoc.1 hw with hw | rfl
  · exact mem_snoc.2 (.inl (hB w hw))
  · exact mem_snoc.2 (.inr rfl)

section
variable {n : Int} {X Y : Sd} {g g' : G} {m : List (Int × Int × Int)} {a o : Int} {h : Bool} {l l' : L} {B bag : List Lt} {clk : Int} {zb : Bool} {zk zs ze : Int}

theorem fin_same (inv : Inv n X Y l B clk) (hB : ∀ w ∈ bag, w ∈ B) (hl : Len bag n) : Inv (n + 1) X Y l bag clk := (inv.sub hB hl).up (by omega)

theorem fin_ref0 (inv : Inv n ⟨g, m, a, o, h⟩ Y l B clk) (hB : ∀ w ∈ bag, w ∈ B) (hl : Len bag n) {r' : Bool} (he : (g', r') = Gd.refused g zs) : Inv (n + 1) ⟨g', m, a, o, h⟩ Y l bag clk := by
  have h1 := inv.x.refused (s := zs)
  rw [← he] at h1
  exact fin_same ⟨h1, inv.y, inv.l, inv.len, inv.reg⟩ hB hl
theorem fin_ref1 (inv : Inv n X ⟨g, m, a, o, h⟩ l B clk) (hB : ∀ w ∈ bag, w ∈ B) (hl : Len bag n) {r' : Bool} (he : (g', r') = Gd.refused g zs) : Inv (n + 1) X ⟨g', m, a, o, h⟩ l bag clk := by
  have h1 := inv.y.refused (s := zs)
  rw [← he] at h1
  exact fin_same ⟨inv.x, h1, inv.l, inv.len, inv.reg⟩ hB hl

theorem fin_no0 (inv : Inv n ⟨g, m, a, o, h⟩ Y l B clk) (hB : ∀ w ∈ bag, w ∈ B) (hl : Len bag n) {r' : Bool} (he : (g', r') = Gd.granted g zs ze) (hr : r' = false) : Inv (n + 1) ⟨g', m, a, o, h⟩ Y l bag clk := by
  have h1 := granted_no (s := zs) (e := ze) inv.x.fine (by rw [← he]; exact hr)
  rw [← he] at h1
  simp only at h1; subst h1
  exact fin_same inv hB hl
theorem fin_no1 (inv : Inv n X ⟨g, m, a, o, h⟩ l B clk) (hB : ∀ w ∈ bag, w ∈ B) (hl : Len bag n) {r' : Bool} (he : (g', r') = Gd.granted g zs ze) (hr : r' = false) : Inv (n + 1) X ⟨g', m, a, o, h⟩ l bag clk := by
  have h1 := granted_no (s := zs) (e := ze) inv.y.fine (by rw [← he]; exact hr)
  rw [← he] at h1
  simp only at h1; subst h1
  exact fin_same inv hB hl

theorem fin_gr0 (inv : Inv n ⟨g, m, a, o, h⟩ Y l B clk) (hB : ∀ w ∈ bag, w ∈ B) (hl : Len bag n) (hz : ⟨0, zb, zk, zs, ze⟩ ∈ B) (hzb : zb = true) (hzk : (zk == 0) = false) {r' : Bool} (he : (g', r') = Gd.granted g zs ze) (hr : r' = true)
    {a' o' : Int} (hf : find m zs = some (a', o')) : Inv (n + 1) ⟨g', m, a', o', true⟩ Y l bag clk := by
  obtain ⟨a2, o2, h1, h2⟩ := inv.x.granted hz rfl hzb (by simpa using hzk) (by simp only; rw [← he]; exact hr)
  simp only at h1 h2
  rw [hf] at h1; simp at h1; obtain ⟨rfl, rfl⟩ := h1
  rw [← he] at h2
  exact fin_same ⟨h2, inv.y, inv.l, inv.len, inv.reg⟩ hB hl
theorem fin_gr1 (inv : Inv n X ⟨g, m, a, o, h⟩ l B clk) (hB : ∀ w ∈ bag, w ∈ B) (hl : Len bag n) (hz : ⟨1, zb, zk, zs, ze⟩ ∈ B) (hzb : zb = true) (hzk : (zk == 0) = false) {r' : Bool} (he : (g', r') = Gd.granted g zs ze) (hr : r' = true)
    {a' o' : Int} (hf : find m zs = some (a', o')) : Inv (n + 1) X ⟨g', m, a', o', true⟩ l bag clk := by
  obtain ⟨a2, o2, h1, h2⟩ := inv.y.granted hz rfl hzb (by simpa using hzk) (by simp only; rw [← he]; exact hr)
  simp only at h1 h2
  rw [hf] at h1; simp at h1; obtain ⟨rfl, rfl⟩ := h1
  rw [← he] at h2
  exact fin_same ⟨inv.x, h2, inv.l, inv.len, inv.reg⟩ hB hl
theorem fin_none0 (inv : Inv n ⟨g, m, a, o, h⟩ Y l B clk) (hz : ⟨0, zb, zk, zs, ze⟩ ∈ B) (hzb : zb = true) (hzk : (zk == 0) = false) {r' : Bool} (he : (g', r') = Gd.granted g zs ze) (hr : r' = true) (hf : find m zs = none) : False := by
  obtain ⟨a2, o2, h1, h2⟩ := inv.x.granted hz rfl hzb (by simpa using hzk) (by simp only; rw [← he]; exact hr)
  simp only at h1; rw [hf] at h1; simp at h1
theorem fin_none1 (inv : Inv n X ⟨g, m, a, o, h⟩ l B clk) (hz : ⟨1, zb, zk, zs, ze⟩ ∈ B) (hzb : zb = true) (hzk : (zk == 0) = false) {r' : Bool} (he : (g', r') = Gd.granted g zs ze) (hr : r' = true) (hf : find m zs = none) : False := by
  obtain ⟨a2, o2, h1, h2⟩ := inv.y.granted hz rfl hzb (by simpa using hzk) (by simp only; rw [← he]; exact hr)
  simp only at h1; rw [hf] at h1; simp at h1

theorem fin_tick0 (inv : Inv n ⟨g, m, a, o, h⟩ Y l bag clk) (hn : 0 ≤ n ∧ n < 400) {k : Int} (hk : 0 ≤ k ∧ k ≤ 15) (he : g' = Gd.tick g k) : Inv (n + 1) ⟨g', m, a, o, h⟩ Y l bag clk := by
  subst he
  exact ⟨inv.x.tick hk.1 hk.2 (by omega), inv.y.up (by omega), inv.l.up (by omega), by have := inv.len; omega, inv.reg⟩
theorem fin_tick1 (inv : Inv n X ⟨g, m, a, o, h⟩ l bag clk) (hn : 0 ≤ n ∧ n < 400) {k : Int} (hk : 0 ≤ k ∧ k ≤ 15) (he : g' = Gd.tick g k) : Inv (n + 1) X ⟨g', m, a, o, h⟩ l bag clk := by
  subst he
  exact ⟨inv.x.up (by omega), inv.y.tick hk.1 hk.2 (by omega), inv.l.up (by omega), by have := inv.len; omega, inv.reg⟩
theorem fin_arb (inv : Inv n X Y l bag clk) (hn : 0 ≤ n ∧ n < 400) {k clk' : Int} (hk : 0 ≤ k ∧ k ≤ 15) (he : l' = Ls.tick l k) (hc : clk' = clk + k) : Inv (n + 1) X Y l' bag clk' := by
  subst hc
  have h1 := tick_is inv.l hk.1 hk.2 (by omega)
  have h2 := inv.l.tick hk.1 hk.2 (by omega)
  rw [← he] at h1 h2
  exact ⟨(inv.x.clock hk.1 (l' := l') (by rw [h1]) (by rw [h1]; exact Int.le_refl _) (by rw [h1])).up (by omega), (inv.y.clock hk.1 (l' := l') (by rw [h1]) (by rw [h1]; exact Int.le_refl _) (by rw [h1])).up (by omega), h2, by have := inv.len; omega, inv.reg⟩
theorem ask_no {g g' : G} {x y z : Int} (hf : Fine g) (he : (g', x, y, z) = Gd.ask g) (hz : (z == 0) = false) : g' = g := by
  unfold Gd.ask Gd.asked at he
  rw [may_fine hf] at he
  split at he
  · exact congrArg (·.1) he
  · split at he
    · exact congrArg (·.1) he
    · have := congrArg (·.2.2.2) he; simp at this; simp [this] at hz
theorem fin_askno0 (inv : Inv n ⟨g, m, a, o, h⟩ Y l bag clk) {x y z : Int} (he : (g', x, y, z) = Gd.ask g) (hz : (z == 0) = false) : Inv (n + 1) ⟨g', m, a, o, h⟩ Y l bag clk := by
  have := ask_no inv.x.fine he hz; subst this; exact inv.up (by omega)
theorem fin_askno1 (inv : Inv n X ⟨g, m, a, o, h⟩ l bag clk) {x y z : Int} (he : (g', x, y, z) = Gd.ask g) (hz : (z == 0) = false) : Inv (n + 1) X ⟨g', m, a, o, h⟩ l bag clk := by
  have := ask_no inv.y.fine he hz; subst this; exact inv.up (by omega)
theorem len_snoc (inv : Inv n X Y l bag clk) (y : Lt) : ((bag ++ [y]).length : Int) ≤ n + 1 := by have := inv.len; simp; omega
theorem reg_snoc (inv : Inv n X Y l bag clk) {y : Lt} (hy : y.r = 0 ∨ y.r = 1) : ∀ z ∈ bag ++ [y], z.r = 0 ∨ z.r = 1 := by
  intro z hz
  rcases mem_snoc.1 hz with hz | rfl
  · exact inv.reg z hz
  · exact hy
theorem fin_ask0 (inv : Inv n ⟨g, m, a, o, h⟩ Y l bag clk) (hn : 0 ≤ n ∧ n < 400) {x y z : Int} (he : (g', x, y, z) = Gd.ask g) (hz : (z == 0) = true) : Inv (n + 1) ⟨g', put m x (clk, g'.c), a, o, h⟩ Y l (bag ++ [⟨0, false, y, x, g'.e⟩]) clk := by
  have h1 := inv.x.ask (by omega) inv.l.c0 (by simp only; rw [← he]; simpa using hz)
  simp only at h1
  rw [← he] at h1
  exact ⟨h1, (inv.y.other (by simp)).up (by omega), inv.l.up (by omega), len_snoc inv _, reg_snoc inv (.inl rfl)⟩
theorem fin_ask1 (inv : Inv n X ⟨g, m, a, o, h⟩ l bag clk) (hn : 0 ≤ n ∧ n < 400) {x y z : Int} (he : (g', x, y, z) = Gd.ask g) (hz : (z == 0) = true) : Inv (n + 1) X ⟨g', put m x (clk, g'.c), a, o, h⟩ l (bag ++ [⟨1, false, y, x, g'.e⟩]) clk := by
  have h1 := inv.y.ask (by omega) inv.l.c0 (by simp only; rw [← he]; simpa using hz)
  simp only at h1
  rw [← he] at h1
  exact ⟨(inv.x.other (by simp)).up (by omega), h1, inv.l.up (by omega), len_snoc inv _, reg_snoc inv (.inr rfl)⟩
theorem fin_yield0 (inv : Inv n ⟨g, m, a, o, h⟩ Y l bag clk) (he : g' = Gd.yield g) {k : Int} (hk : k ≠ 1 ∧ k ≠ 2) : Inv (n + 1) ⟨g', m, a, o, h⟩ Y l (bag ++ [⟨0, false, k, 0, g.e⟩]) clk := by
  have h1 := inv.x.yield hk
  simp only at h1
  rw [← he] at h1
  exact ⟨h1.up (by omega), (inv.y.other (by simp)).up (by omega), inv.l.up (by omega), len_snoc inv _, reg_snoc inv (.inl rfl)⟩
theorem fin_yield1 (inv : Inv n X ⟨g, m, a, o, h⟩ l bag clk) (he : g' = Gd.yield g) {k : Int} (hk : k ≠ 1 ∧ k ≠ 2) : Inv (n + 1) X ⟨g', m, a, o, h⟩ l (bag ++ [⟨1, false, k, 0, g.e⟩]) clk := by
  have h1 := inv.y.yield hk
  simp only at h1
  rw [← he] at h1
  exact ⟨(inv.x.other (by simp)).up (by omega), h1.up (by omega), inv.l.up (by omega), len_snoc inv _, reg_snoc inv (.inr rfl)⟩

theorem fin_mk (h1 : SideOk (n + 1) 0 X l' (B ++ [⟨ze, zb, zk, zs, a⟩]) clk) (h2 : SideOk (n + 1) 1 Y l' (B ++ [⟨ze, zb, zk, zs, a⟩]) clk) (h3 : LeaseOk (n + 1) l' clk) (hr : ze = 0 ∨ ze = 1) (inv : Inv n X Y l B clk) (hB : ∀ w ∈ bag, w ∈ B) (hl : Len bag n) :
    Inv (n + 1) X Y l' (bag ++ [⟨ze, zb, zk, zs, a⟩]) clk := by
  refine ⟨h1.sub (bag_sub hB _), h2.sub (bag_sub hB _), h3, by unfold Len at hl; simp; omega, fun z hz => ?_⟩
  rcases mem_snoc.1 hz with hz | rfl
  · exact inv.reg z (hB z hz)
  · exact hr

theorem fin_acq {r : Int} (hr : r = 0 ∨ r = 1) (inv : Inv n X Y l B clk) (hn : 0 ≤ n ∧ n < 400) (hB : ∀ w ∈ bag, w ∈ B) (hl : Len bag n) (hz : ⟨r, zb, zk, zs, ze⟩ ∈ B) {e2 er k : Int} (he : (l', e2, er) = Ls.acquire l r) (hk : k = if er = 0 then 1 else 0) :
    Inv (n + 1) X Y l' (bag ++ [⟨r, true, k, zs, e2⟩]) clk := by
  have h1 := inv.x.acquired inv.l (by omega) hz hr (k := k) (by simp only; rw [← he]; exact hk)
  have h2 := inv.y.acquired inv.l (by omega) hz hr (k := k) (by simp only; rw [← he]; exact hk)
  have h3 := (acq inv.l (by omega) hr).1
  simp only at h1 h2
  rw [← he] at h1 h2 h3
  exact fin_mk h1 h2 h3 hr inv hB hl
theorem fin_ren {r : Int} (hr : r = 0 ∨ r = 1) (inv : Inv n X Y l B clk) (hn : 0 ≤ n ∧ n < 400) (hB : ∀ w ∈ bag, w ∈ B) (hl : Len bag n) (hz : ⟨r, zb, zk, zs, ze⟩ ∈ B) (hzb : zb = false) (hzk : (zk == 2) = true) {er k : Int} (he : (l', er) = Ls.renew l r ze) (hk : k = if er = 0 then 1 else 0) :
    Inv (n + 1) X Y l' (bag ++ [⟨r, true, k, zs, ze⟩]) clk := by
  have h1 := inv.x.renewed inv.l (by omega) hz hr hzb (by simpa using hzk) (k := k) (by simp only; rw [← he]; exact hk)
  have h2 := inv.y.renewed inv.l (by omega) hz hr hzb (by simpa using hzk) (k := k) (by simp only; rw [← he]; exact hk)
  have h3 := (ren (e := ze) inv.l (by omega) hr).1
  simp only at h1 h2
  rw [← he] at h1 h2 h3
  exact fin_mk h1 h2 h3 hr inv hB hl
theorem fin_rel {r : Int} (hr : r = 0 ∨ r = 1) (inv : Inv n X Y l B clk) (hB : ∀ w ∈ bag, w ∈ B) (hl : Len bag n) (hz : ⟨r, zb, zk, zs, ze⟩ ∈ B) (hzb : zb = false) (hk1 : (zk == 1) = false) (hk2 : (zk == 2) = false) {er : Int} (he : (l', er) = Ls.release l r ze) : Inv (n + 1) X Y l' bag clk := by
  have hu : (⟨r, zb, zk, zs, ze⟩ : Lt).up := ⟨hzb, by simpa using hk1, by simpa using hk2⟩
  have h1 := inv.x.released inv.l hz hr hu
  have h2 := inv.y.released inv.l hz hr hu
  have h3 := (rel (e := ze) inv.l hr).1
  simp only at h1 h2
  rw [← he] at h1 h2 h3
  exact ⟨h1.sub hB, h2.sub hB, h3, by unfold Len at hl; omega, fun z hz => inv.reg z (hB z hz)⟩
theorem fin_tra {r q : Int} (hr : r = 0 ∨ r = 1) (inv : Inv n X Y l B clk) (hn : 0 ≤ n ∧ n < 400) (hB : ∀ w ∈ bag, w ∈ B) (hl : Len bag n) (hz : ⟨r, zb, zk, zs, ze⟩ ∈ B) (hzb : zb = false) (hk1 : (zk == 1) = false) (hk2 : (zk == 2) = false) {er e2 : Int} (he : (l', e2, er) = Ls.transfer l r ze q) (hq : q = 1 - r) : Inv (n + 1) X Y l' bag clk := by
  subst hq
  have hu : (⟨r, zb, zk, zs, ze⟩ : Lt).up := ⟨hzb, by simpa using hk1, by simpa using hk2⟩
  have h1 := inv.x.handed inv.l (by omega) hz hr hu (.inl rfl)
  have h2 := inv.y.handed inv.l (by omega) hz hr hu (.inr rfl)
  have h3 := (tra (e := ze) inv.l (by omega) hr).1
  simp only at h1 h2
  rw [← he] at h1 h2 h3
  exact ⟨h1.sub hB, h2.sub hB, h3, by unfold Len at hl; omega, fun z hz => inv.reg z (hB z hz)⟩
end

theorem mok_enc' {m : List (Int × Int × Int)} {es : List (AV × AV)} (h : es = encM m) : ∀ x ∈ es, keyOk false [.int .i64] x.1 = true := by subst h; exact mok_enc m

theorem ren_enc {g : Nat → Option Nat} {m : List (Int × Int × Int)} {es : List (AV × AV)} (h : es = encM m) : es.map (fun x => (Pt.ren g 6 x.1, Pt.ren g 6 x.2)) = es := by
  subst h
  simp [encM, encP, Pt.ren, Function.comp_def]

theorem okE_mp {k : Nat} {m : List (Int × Int × Int)} {es : List (AV × AV)} (h : es = encM m) : okE k (.mp es) = true := by
  subst h
  simp only [okE, encM, encP, List.all_map, List.all_eq_true]
  intro x _
  rfl
theorem okS_of {env : List (Nat × AV)} {cs : List AV} {es0 es1 : List (AV × AV)} {xs : List AV} {n : Nat} (h : okS ⟨env, [.var cs, .mp [], .mp [], .vec 5 xs], n⟩ = true) (he : okE 4 (.mp es0) = true ∧ okE 4 (.mp es1) = true) : okS ⟨env, [.var cs, .mp es0, .mp es1, .vec 5 xs], n⟩ = true := by
  simp only [okS, lenN, List.all_cons, List.all_nil, Bool.and_eq_true, Nat.reduceAdd] at h ⊢
  exact ⟨h.1, h.2.1, he.1, he.2, h.2.2.2.2⟩

theorem and_1 (x : Int) : bits .and .i64 x 1 = 0 ∨ bits .and .i64 x 1 = 1 := by
  have h : ∀ a : BitVec 64, (a &&& (BitVec.ofInt 64 1)).toNat = 0 ∨ (a &&& (BitVec.ofInt 64 1)).toNat = 1 := by
    intro a
    have : (a &&& (BitVec.ofInt 64 1)).toNat = a.toNat % 2 := by
      rw [BitVec.toNat_and]; show a.toNat &&& 1 = _; exact Nat.and_one_is_mod _
    omega
  unfold bits
  rcases h (BitVec.ofInt 64 x) with h | h
  · left; show IntKind.i64.wrap ((BitVec.ofInt 64 x &&& BitVec.ofInt 64 1).toNat : Int) = 0; rw [h]; rfl
  · right; show IntKind.i64.wrap ((BitVec.ofInt 64 x &&& BitVec.ofInt 64 1).toNat : Int) = 1; rw [h]; rfl
theorem and_15 (x : Int) : 0 ≤ bits .and .i64 x 15 ∧ bits .and .i64 x 15 ≤ 15 := by
  have h : (BitVec.ofInt 64 x &&& (BitVec.ofInt 64 15)).toNat ≤ 15 := by
    rw [BitVec.toNat_and]; show (BitVec.ofInt 64 x).toNat &&& 15 ≤ 15; exact Nat.and_le_right
  show 0 ≤ IntKind.i64.wrap ((BitVec.ofInt 64 x &&& BitVec.ofInt 64 15).toNat : Int) ∧ IntKind.i64.wrap ((BitVec.ofInt 64 x &&& BitVec.ofInt 64 15).toNat : Int) ≤ 15
  generalize (BitVec.ofInt 64 x &&& BitVec.ofInt 64 15).toNat = k at h
  unfold IntKind.wrap
  simp [IntKind.bits, IntKind.signed]
  omega
theorem wrapU {x : Int} (h : 0 ≤ x) (h' : x < 1000) : IntKind.u64.wrap x = x := by
  unfold IntKind.wrap; simp [IntKind.bits, IntKind.signed]; omega
theorem wrapI {x : Int} (h : -9223372036854775808 ≤ x) (h' : x ≤ 9223372036854775807) : IntKind.i64.wrap x = x := by
  unfold IntKind.wrap; simp [IntKind.bits, IntKind.signed]; omega
theorem pick_ok {w N : Int} (h : 0 < N) (h' : N < 1000) : 0 ≤ IntKind.i64.wrap (Int.tmod (IntKind.u64.wrap w) (IntKind.u64.wrap N)) ∧ IntKind.i64.wrap (Int.tmod (IntKind.u64.wrap w) (IntKind.u64.wrap N)) < N := by
  rw [wrapU (by omega) h']
  have h0 : 0 ≤ IntKind.u64.wrap w := by unfold IntKind.wrap; simp [IntKind.bits, IntKind.signed]; omega
  have h1 := Int.tmod_nonneg N h0
  have h2 := Int.tmod_lt_of_pos (IntKind.u64.wrap w) h
  rw [wrapI (by omega) (by omega)]
  exact ⟨h1, h2⟩

theorem arb_ok {n : Int} {X Y : Sd} {l : L} {bag : List Lt} {clk k : Int} (inv : Inv n X Y l bag clk) (hn : 0 ≤ n ∧ n < 400) (hk : 0 ≤ k ∧ k ≤ 15) : IntKind.i64.wrap (clk + k) = clk + k := by
  have h1 := inv.l.c0; have h2 := inv.l.c1
  exact wrapI (by omega) (by omega)
theorem pick_at {n N w : Int} {bag : List Lt} (hl : Len bag n) (hN : IsLen N bag) (hn : 0 ≤ n ∧ n < 400) (h0 : (N == 0) = false) : 0 ≤ IntKind.i64.wrap (Int.tmod (IntKind.u64.wrap w) (IntKind.u64.wrap N)) ∧ IntKind.i64.wrap (Int.tmod (IntKind.u64.wrap w) (IntKind.u64.wrap N)) < N := by
  unfold Len at hl; unfold IsLen at hN
  have : N ≠ 0 := by simpa using h0
  exact pick_ok (by omega) (by omega)
theorem pick_sum {n N w : Int} {bag : List Lt} {xs : List AV} (hl : Len bag n) (hN : IsLen N bag) (hn : 0 ≤ n ∧ n < 400) (hx : xs = bag.map Lt.av) (h0 : (N == 0) = false) :
    0 ≤ 0 + IntKind.i64.wrap (Int.tmod (IntKind.u64.wrap w) (IntKind.u64.wrap N)) ∧ 0 + IntKind.i64.wrap (Int.tmod (IntKind.u64.wrap w) (IntKind.u64.wrap N)) < (xs.length : Int) := by
  have := pick_at (w := w) hl hN hn h0
  unfold IsLen at hN
  subst hx; simp; omega
theorem pick_one {n N w : Int} {bag : List Lt} (hl : Len bag n) (hN : IsLen N bag) (hn : 0 ≤ n ∧ n < 400) (h0 : (N == 0) = false) :
    IntKind.i64.wrap (IntKind.i64.wrap (Int.tmod (IntKind.u64.wrap w) (IntKind.u64.wrap N)) + 1) = IntKind.i64.wrap (Int.tmod (IntKind.u64.wrap w) (IntKind.u64.wrap N)) + 1 := by
  have := pick_at (w := w) hl hN hn h0
  unfold Len at hl; unfold IsLen at hN
  exact wrapI (by omega) (by omega)

section
variable {P : Program} {n₀ : Nat} {J : Jd}

theorem look_in (hJ : J = std P n₀) {m : List (Int × Int × Int)} {es : List (AV × AV)} (he : es = encM m) {k : Int} {K : AV → Prop} (h : ∀ a o, find m k = some (a, o) → K (.agg [.int .i64 a, .int .i64 o])) : ∀ v, J.o.mfind es (.int .i64 k) = some v → K v := by
  subst hJ he
  intro v hv
  simp only [std, stdOps, mfind_enc] at hv
  cases hf : find m k with
  | none => rw [hf] at hv; simp at hv
  | some x => rw [hf] at hv; simp at hv; subst hv; exact h _ _ hf

theorem look_no (hJ : J = std P n₀) {m : List (Int × Int × Int)} {es : List (AV × AV)} (he : es = encM m) {k : Int} {K : Prop} (h : find m k = none → K) : J.o.mfind es (.int .i64 k) = none → K := by
  subst hJ he
  intro hv
  simp only [std, stdOps, mfind_enc] at hv
  apply h
  cases hf : find m k with
  | none => rfl
  | some x => rw [hf] at hv; simp at hv

theorem elem_in (hJ : J = std P n₀) {bag : List Lt} {xs : List AV} (hx : xs = bag.map Lt.av) {i : Int} {K : AV → Prop} (h : ∀ r b k s e, ⟨r, b, k, s, e⟩ ∈ bag → K (.agg [.int .i64 r, .bool b, .int .i64 k, .int .i64 s, .int .i64 e])) : ∀ e, J.o.get xs i = some e → K e := by
  subst hJ hx
  intro e he
  simp only [std, stdOps, List.getElem?_map] at he
  cases hz : bag[i.toNat]? with
  | none => rw [hz] at he; simp at he
  | some z => rw [hz] at he; simp at he; subst he; exact h z.r z.b z.k z.s z.e (List.mem_of_getElem? hz)

theorem delete_nv {J : Jd} {n₀ : Nat} (hJ : J = std Go.Proofs.Try.prog n₀) {id : Nat} {bag : List Lt} {xs : List AV} {N i j n : Int} {σ : List Ent} {K E} (hid : nth σ id = some (.vec 5 xs)) (hx : xs = bag.map Lt.av) (hN : IsLen N bag) (hl : Len bag n) (hn : n < 400) (hi : 0 ≤ i ∧ i < N) (hj : j = i + 1)
    (h : ∀ (bag' : List Lt) (ys : List AV) (N' : Int), ys = bag'.map Lt.av → IsLen N' bag' → Len bag' n → (∀ w ∈ bag', w ∈ bag) → K (.vs (lenN σ) 5 0 N' N') (snoc (setN σ id .dead) (.vec 5 ys))) : J.call 63 [.vs id 5 0 N N, .int .i64 i, .int .i64 j] σ K E := by
  unfold IsLen at hN h
  unfold Len at hl h
  refine Go.Proofs.Ytilffanmaicakaa.A.delete_at hJ hid (by subst hx; simpa using hN) hi hj (by omega) (h (bag.eraseIdx i.toNat) _ _ ?_ ?_ ?_ ?_)
  · subst hx; simp [List.eraseIdx_eq_take_drop_succ, List.map_take, List.map_drop]
  · rw [List.length_eraseIdx, if_pos (by omega)]; omega
  · rw [List.length_eraseIdx, if_pos (by omega)]; omega
  · intro w hw; exact List.mem_of_mem_eraseIdx hw
end
end Go.Nv
