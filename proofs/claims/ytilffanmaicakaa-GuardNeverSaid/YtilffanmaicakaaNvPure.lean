/- Two regions, an arbiter and their letters: what stays so, whatever comes. No program in sight. -/
import Derived.Test.YtilffanmaicakaaGdStaysP
import Derived.Test.YtilffanmaicakaaLsPure
namespace Go.Nv
open Go.Gd Go.Ls

/-- A letter: region, back, kind, serial, epoch. -/
structure Lt where
  r : Int
  b : Bool
  k : Int
  s : Int
  e : Int

/-- A region's side: its guard, its questions, when its last granted one was asked (by both clocks), had. -/
structure Sd where
  g : G
  m : List (Int × Int × Int)
  a : Int
  o : Int
  h : Bool

def find : List (Int × Int × Int) → Int → Option (Int × Int)
  | [], _ => none
  | x :: r, k => if k = x.1 then some x.2 else find r k

def put : List (Int × Int × Int) → Int → Int × Int → List (Int × Int × Int)
  | [], k, v => [(k, v)]
  | x :: r, k, v => if k = x.1 then (k, v) :: r else x :: put r k v

theorem find_put (m : List (Int × Int × Int)) (k : Int) (v : Int × Int) : find (put m k v) k = some v := by
  induction m with
  | nil => simp [put, find]
  | cons x r ih =>
    unfold put; split
    · simp [find]
    · rename_i h; simp [find, h, ih]

/-- A letter that gives something up. -/
def Lt.up (x : Lt) : Prop := x.b = false ∧ x.k ≠ 1 ∧ x.k ≠ 2

/-- From the question asked at a on, the lease is long enough. -/
def Long (r a : Int) (l : L) (clk : Int) : Prop := clk ≥ a + 16 ∨ (l.o = r ∧ l.u ≥ a + 16)

structure SideOk (n r : Int) (d : Sd) (l : L) (bag : List Lt) (clk : Int) : Prop where
  fine : Fine d.g
  c : d.g.c ≤ 15 * n
  s : d.g.s ≤ n
  e : d.g.e ≤ l.e
  a0 : 0 ≤ d.a
  a1 : d.a ≤ clk
  o0 : 0 ≤ d.o
  o1 : d.o ≤ d.g.c
  has : d.g.e ≠ 0 → d.h = true ∧ Long r d.a l clk ∧ d.g.u ≤ d.o + 12
  asked : d.g.k ≠ 0 → d.o ≤ d.g.a ∧ ∃ a, find d.m d.g.s = some (a, d.g.a) ∧ 0 ≤ a ∧ a ≤ clk
  k1 : d.g.k = 1 → d.g.e = 0
  ser : ∀ x ∈ bag, x.r = r → x.s ≤ d.g.s
  ups : ∀ x ∈ bag, x.r = r → x.up → x.e ≤ l.e ∧ (d.g.e ≠ 0 → x.e < d.g.e)
  ques : ∀ x ∈ bag, x.r = r → x.b = false → (x.k = 1 ∨ x.k = 2) → x.s = d.g.s → d.g.k ≠ 0 → x.k = d.g.k
  ans : ∀ x ∈ bag, x.r = r → x.b = true → x.k ≠ 0 → x.s = d.g.s → d.g.k ≠ 0 → (∀ a o, find d.m d.g.s = some (a, o) → Long r a l clk) ∧ (d.g.k = 1 → x.e ≤ l.e ∧ ∀ y ∈ bag, y.r = r → y.up → y.e < x.e)

structure LeaseOk (n : Int) (l : L) (clk : Int) : Prop where
  chk : Ls.chk l = 0
  c : l.c = clk
  z : l.z = false
  c0 : 0 ≤ clk
  c1 : clk ≤ 15 * n
  e : l.e ≤ n

theorem chk_iff (l : L) : Ls.chk l = 0 ↔ (l.o = -1 ∨ l.o = 0 ∨ l.o = 1) ∧ (l.p = -1 ∨ l.p = 0 ∨ l.p = 1) ∧ (0 ≤ l.e ∧ l.e ≤ 9007199254740992) ∧ (0 ≤ l.c ∧ l.c ≤ 9007199254740992) ∧ (0 ≤ l.u ∧ l.u ≤ 9007199254740992) ∧
    (l.o ≠ -1 → l.o = l.p) ∧ (l.p = -1 → l.e = 0 ∧ l.z = false) ∧ (l.p ≠ -1 → l.e ≠ 0) ∧ (l.o = -1 → l.u ≤ l.c) := by
  unfold Ls.chk bad odd Ls.region Ls.num
  constructor
  · intro h
    split at h
    · exact absurd h (by decide)
    · split at h
      · exact absurd h (by decide)
      · grind
  · intro h; split
    · grind
    · split
      · grind
      · rfl

theorem SideOk.sub {n r : Int} {d : Sd} {l : L} {bag bag' : List Lt} {clk : Int} (h : SideOk n r d l bag clk) (hb : ∀ x ∈ bag', x ∈ bag) : SideOk n r d l bag' clk :=
  ⟨h.fine, h.c, h.s, h.e, h.a0, h.a1, h.o0, h.o1, h.has, h.asked, h.k1, fun x hx => h.ser x (hb x hx), fun x hx => h.ups x (hb x hx), fun x hx => h.ques x (hb x hx),
   fun x hx hr h1 h2 h3 h4 => ⟨(h.ans x (hb x hx) hr h1 h2 h3 h4).1, fun hk => ⟨((h.ans x (hb x hx) hr h1 h2 h3 h4).2 hk).1, fun y hy => ((h.ans x (hb x hx) hr h1 h2 h3 h4).2 hk).2 y (hb y hy)⟩⟩⟩

theorem SideOk.up {n m r : Int} {d : Sd} {l : L} {bag : List Lt} {clk : Int} (h : SideOk n r d l bag clk) (hn : n ≤ m) : SideOk m r d l bag clk :=
  ⟨h.fine, by have := h.c; omega, by have := h.s; omega, h.e, h.a0, h.a1, h.o0, h.o1, h.has, h.asked, h.k1, h.ser, h.ups, h.ques, h.ans⟩

theorem mem_snoc {x y : Lt} {l : List Lt} : x ∈ l ++ [y] ↔ x ∈ l ∨ x = y := by simp

/-- A letter of the other region's. -/
theorem SideOk.other {n r : Int} {d : Sd} {l : L} {bag : List Lt} {clk : Int} (h : SideOk n r d l bag clk) {y : Lt} (hy : y.r ≠ r) : SideOk n r d l (bag ++ [y]) clk := by
  have key : ∀ x ∈ bag ++ [y], x.r = r → x ∈ bag := by
    intro x hx hr
    rcases mem_snoc.1 hx with hx | rfl
    · exact hx
    · exact absurd hr hy
  exact ⟨h.fine, h.c, h.s, h.e, h.a0, h.a1, h.o0, h.o1, h.has, h.asked, h.k1, fun x hx hr => h.ser x (key x hx hr) hr, fun x hx hr => h.ups x (key x hx hr) hr, fun x hx hr => h.ques x (key x hx hr) hr,
    fun x hx hr h1 h2 h3 h4 => ⟨(h.ans x (key x hx hr) hr h1 h2 h3 h4).1, fun hk => ⟨((h.ans x (key x hx hr) hr h1 h2 h3 h4).2 hk).1, fun y hy hyr => ((h.ans x (key x hx hr) hr h1 h2 h3 h4).2 hk).2 y (key y hy hyr) hyr⟩⟩⟩

theorem SideOk.tick {n r k : Int} {d : Sd} {l : L} {bag : List Lt} {clk : Int} (h : SideOk n r d l bag clk) (hk : 0 ≤ k) (hk' : k ≤ 15) (hn : n ≤ 400) : SideOk (n + 1) r ⟨Gd.tick d.g k, d.m, d.a, d.o, d.h⟩ l bag clk := by
  have hm := may_fine h.fine
  have hc := h.c
  have hf := h.fine
  have ht : Gd.tick d.g k = ⟨d.g.c + k, d.g.e, d.g.u, d.g.s, d.g.k, d.g.a⟩ := by
    unfold Gd.tick Gd.more; rw [hm]; simp; have := hf.c0; omega
  have hfine := fine_tick d.g k
  rw [ht] at hfine ⊢
  exact ⟨hfine, by simp only; omega, by have := h.s; simp only; omega, h.e, h.a0, h.a1, h.o0, by have := h.o1; simp only; omega, h.has, h.asked, h.k1, h.ser, h.ups, h.ques, h.ans⟩

theorem Long.mono {r a : Int} {l : L} {clk clk' : Int} (h : Long r a l clk) (hc : clk ≤ clk') {l' : L} (ho : l'.o = l.o) (hu : l.u ≤ l'.u) : Long r a l' clk' := by
  unfold Long at *; omega

theorem SideOk.clock {n r k : Int} {d : Sd} {l l' : L} {bag : List Lt} {clk : Int} (h : SideOk n r d l bag clk) (hk : 0 ≤ k) (ho : l'.o = l.o) (hu : l.u ≤ l'.u) (he : l'.e = l.e) : SideOk n r d l' bag (clk + k) :=
  have hl : ∀ {a}, Long r a l clk → Long r a l' (clk + k) := fun h => h.mono (by omega) ho hu
  ⟨h.fine, h.c, h.s, by rw [he]; exact h.e, h.a0, by have := h.a1; omega, h.o0, h.o1, fun h1 => ⟨(h.has h1).1, hl (h.has h1).2.1, (h.has h1).2.2⟩,
   fun h1 => ⟨(h.asked h1).1, by obtain ⟨a, h2, h3, h4⟩ := (h.asked h1).2; exact ⟨a, h2, h3, by omega⟩⟩, h.k1, h.ser, fun x hx hr hu => by rw [he]; exact h.ups x hx hr hu, h.ques,
   fun x hx hr h1 h2 h3 h4 => ⟨fun a o ha => hl ((h.ans x hx hr h1 h2 h3 h4).1 a o ha), fun hk => by rw [he]; exact (h.ans x hx hr h1 h2 h3 h4).2 hk⟩⟩

theorem LeaseOk.up {n m : Int} {l : L} {clk : Int} (h : LeaseOk n l clk) (hn : n ≤ m) : LeaseOk m l clk := ⟨h.chk, h.c, h.z, h.c0, by have := h.c1; omega, by have := h.e; omega⟩

theorem tick_is {n k : Int} {l : L} {clk : Int} (h : LeaseOk n l clk) (hk : 0 ≤ k) (hk' : k ≤ 15) (hn : n ≤ 400) : Ls.tick l k = ⟨l.o, l.p, l.e, clk + k, l.u, l.z⟩ := by
  have h1 := h.c; have h2 := h.c1
  unfold Ls.tick
  split
  · unfold Ls.more; split
    · omega
    · rw [h1]
  · rename_i hc
    have := h.chk
    have : k = 0 := by omega
    subst this; cases l; simp_all

theorem LeaseOk.tick {n k : Int} {l : L} {clk : Int} (h : LeaseOk n l clk) (hk : 0 ≤ k) (hk' : k ≤ 15) (hn : n ≤ 400) : LeaseOk (n + 1) (Ls.tick l k) (clk + k) := by
  have h1 := h.c; have h2 := h.c1; have h3 := h.c0
  have hc := (chk_iff l).1 h.chk
  rw [tick_is h hk hk' hn]
  refine ⟨(chk_iff _).2 ?_, rfl, h.z, by omega, by omega, by have := h.e; simp only; omega⟩
  simp only
  refine ⟨hc.1, hc.2.1, hc.2.2.1, by omega, hc.2.2.2.2.1, hc.2.2.2.2.2.1, hc.2.2.2.2.2.2.1, hc.2.2.2.2.2.2.2.1, fun ho => ?_⟩
  have := hc.2.2.2.2.2.2.2.2 ho; omega

theorem SideOk.ask {n r : Int} {d : Sd} {l : L} {bag : List Lt} {clk : Int} (h : SideOk n r d l bag clk) (hn : n ≤ 400) (hc : 0 ≤ clk) (hok : (Gd.ask d.g).2.2.2 = 0) :
    SideOk (n + 1) r ⟨(Gd.ask d.g).1, put d.m (Gd.ask d.g).2.1 (clk, (Gd.ask d.g).1.c), d.a, d.o, d.h⟩ l (bag ++ [⟨r, false, (Gd.ask d.g).2.2.1, (Gd.ask d.g).2.1, (Gd.ask d.g).1.e⟩]) clk := by
  have hm := may_fine h.fine
  have hf := h.fine
  have hs := h.s
  have hfine := fine_ask d.g
  have hq : Gd.ask d.g = (⟨d.g.c, d.g.e, d.g.u, d.g.s + 1, if d.g.e = 0 then 1 else 2, d.g.c⟩, d.g.s + 1, if d.g.e = 0 then 1 else 2, 0) := by
    unfold Gd.ask Gd.asked at hok ⊢
    rw [hm] at hok ⊢
    split at hok
    · simp at hok
    · rename_i h1
      split at hok
      · simp at hok
      · rename_i h2; rw [if_neg h1, if_neg h2]
  rw [hq] at hfine ⊢
  simp only at hfine ⊢
  refine ⟨hfine, by have := h.c; simp only; omega, by simp only; omega, h.e, h.a0, h.a1, h.o0, h.o1, h.has, fun _ => ⟨h.o1, clk, find_put _ _ _, hc, Int.le_refl _⟩, ?_, ?_, ?_, ?_, ?_⟩
  · simp only; intro hk; split at hk <;> first | assumption | simp at hk
  · intro x hx hr
    simp only
    rcases mem_snoc.1 hx with hx | rfl
    · have := h.ser x hx hr; omega
    · simp only; omega
  · intro x hx hr hu
    rcases mem_snoc.1 hx with hx | rfl
    · exact h.ups x hx hr hu
    · have := hu.2; simp only at this; split at this <;> simp at this
  · intro x hx hr h1 h2 h3 h4
    rcases mem_snoc.1 hx with hx | rfl
    · have := h.ser x hx hr; simp only at h3; omega
    · rfl
  · intro x hx hr h1 h2 h3 h4
    rcases mem_snoc.1 hx with hx | rfl
    · have := h.ser x hx hr; simp only at h3; omega
    · simp at h1

theorem SideOk.yield {n r k : Int} {d : Sd} {l : L} {bag : List Lt} {clk : Int} (h : SideOk n r d l bag clk) (hk : k ≠ 1 ∧ k ≠ 2) :
    SideOk n r ⟨Gd.yield d.g, d.m, d.a, d.o, d.h⟩ l (bag ++ [⟨r, false, k, 0, d.g.e⟩]) clk := by
  have hm := may_fine h.fine
  have hf := h.fine
  have hle : 0 ≤ l.e := by have := h.e; have := hf.e0; omega
  have hfine := fine_yield d.g
  have hq : Gd.yield d.g = ⟨d.g.c, 0, 0, d.g.s, 0, 0⟩ := by unfold Gd.yield; rw [hm]
  rw [hq] at hfine ⊢
  refine ⟨hfine, h.c, h.s, hle, h.a0, h.a1, h.o0, h.o1, fun hx => absurd rfl hx, fun hx => absurd rfl hx, fun hx => by simp at hx, ?_, ?_, fun _ _ _ _ _ _ hx => absurd rfl hx, fun _ _ _ _ _ _ hx => absurd rfl hx⟩
  · intro x hx hr
    rcases mem_snoc.1 hx with hx | rfl
    · exact h.ser x hx hr
    · exact hf.s0
  · intro x hx hr hu
    rcases mem_snoc.1 hx with hx | rfl
    · exact ⟨(h.ups x hx hr hu).1, fun hx => absurd rfl hx⟩
    · exact ⟨h.e, fun hx => absurd rfl hx⟩

theorem SideOk.refused {n r s : Int} {d : Sd} {l : L} {bag : List Lt} {clk : Int} (h : SideOk n r d l bag clk) : SideOk n r ⟨(Gd.refused d.g s).1, d.m, d.a, d.o, d.h⟩ l bag clk := by
  have hm := may_fine h.fine
  have hf := h.fine
  have hfine := fine_refused d.g s
  have hle : 0 ≤ l.e := by have := h.e; have := hf.e0; omega
  unfold Gd.refused at hfine ⊢
  rw [hm] at hfine ⊢
  split
  · exact h
  · rename_i hno
    rw [if_neg hno] at hfine
    by_cases hk : d.g.k = 2
    · simp only [hk, if_true] at hfine ⊢
      exact ⟨hfine, h.c, h.s, hle, h.a0, h.a1, h.o0, h.o1, fun hx => absurd rfl hx, fun hx => absurd rfl hx, fun hx => by simp at hx, h.ser, fun x hx hr hu => ⟨(h.ups x hx hr hu).1, fun hx => absurd rfl hx⟩, fun _ _ _ _ _ _ hx => absurd rfl hx, fun _ _ _ _ _ _ hx => absurd rfl hx⟩
    · simp only [hk, if_false] at hfine ⊢
      exact ⟨hfine, h.c, h.s, h.e, h.a0, h.a1, h.o0, h.o1, h.has, fun hx => absurd rfl hx, fun hx => by simp at hx, h.ser, h.ups, fun _ _ _ _ _ _ hx => absurd rfl hx, fun _ _ _ _ _ _ hx => absurd rfl hx⟩

theorem granted_no {g : G} {s e : Int} (hf : Fine g) (h : (Gd.granted g s e).2 = false) : (Gd.granted g s e).1 = g := by
  unfold Gd.granted at h ⊢
  rw [may_fine hf] at h ⊢
  split
  · rfl
  · rename_i hc; rw [if_neg hc] at h; simp at h

theorem SideOk.granted {n r : Int} {d : Sd} {l : L} {bag : List Lt} {clk : Int} (h : SideOk n r d l bag clk) {x : Lt} (hx : x ∈ bag) (hr : x.r = r) (hb : x.b = true) (hk : x.k ≠ 0) (hok : (Gd.granted d.g x.s x.e).2 = true) :
    ∃ a o, find d.m x.s = some (a, o) ∧ SideOk n r ⟨(Gd.granted d.g x.s x.e).1, d.m, a, o, true⟩ l bag clk := by
  have hm := may_fine h.fine
  have hf := h.fine
  have hfine := fine_granted d.g x.s x.e
  have hno : ¬ Gd.granting d.g x.s x.e = true := by
    intro hc; unfold Gd.granted at hok; rw [hm, if_pos hc] at hok; simp at hok
  have hq : (Gd.granted d.g x.s x.e).1 = ⟨d.g.c, x.e, if d.g.k = 2 then max (Gd.more d.g.a 12) d.g.u else Gd.more d.g.a 12, d.g.s, 0, 0⟩ := by
    unfold Gd.granted; rw [hm, if_neg hno]
  simp only [granting, Bool.or_eq_true, not_or, beq_iff_eq, bne_iff_ne, decide_eq_true_eq, Bool.and_eq_true] at hno
  obtain ⟨⟨⟨⟨hk0, hs⟩, he1⟩, he2⟩, hke⟩ := hno
  have hs' : x.s = d.g.s := by omega
  obtain ⟨hao, a, hfnd, ha0, ha1⟩ := h.asked hk0
  obtain ⟨hlong, hans⟩ := h.ans x hx hr hb hk hs' hk0
  have hmore := more_fine (a := d.g.a) (b := 12) hf.a1 (by omega)
  have hks := hf.ks hk0
  have hk12 : d.g.k = 1 ∨ d.g.k = 2 := by have := hf.k0; have := hf.k2; omega
  have hlt : x.e ≤ l.e ∧ ∀ y ∈ bag, y.r = r → y.up → y.e < x.e := by
    rcases hk12 with h1 | h2
    · exact hans h1
    · have he : x.e = d.g.e := by
        apply Classical.byContradiction; intro hne; exact hke ⟨h2, hne⟩
      rw [he]
      exact ⟨h.e, fun y hy hyr hyu => (h.ups y hy hyr hyu).2 (hf.ke h2)⟩
  refine ⟨a, d.g.a, by rw [hs']; exact hfnd, ?_⟩
  rw [hq] at hfine ⊢
  refine ⟨hfine, h.c, h.s, hlt.1, ha0, ha1, hf.a0, hks.2, fun _ => ⟨rfl, hlong a _ hfnd, ?_⟩, fun hx => absurd rfl hx, fun hx => by simp at hx, h.ser, fun y hy hyr hyu => ⟨(h.ups y hy hyr hyu).1, fun _ => hlt.2 y hy hyr hyu⟩, fun _ _ _ _ _ _ hx => absurd rfl hx, fun _ _ _ _ _ _ hx => absurd rfl hx⟩
  simp only
  split
  · rename_i h2
    have := (h.has (hf.ke h2)).2.2
    omega
  · omega

/-- A new lease of the region's own, with an answer; or one that is the other's. -/
theorem SideOk.lease {n r : Int} {d : Sd} {l l' : L} {bag : List Lt} {clk : Int} (h : SideOk n r d l bag clk) (he : l.e ≤ l'.e)
    (hl : ∀ a, a ≤ clk → Long r a l clk → Long r a l' clk) : SideOk n r d l' bag clk :=
  ⟨h.fine, h.c, h.s, by have := h.e; omega, h.a0, h.a1, h.o0, h.o1, fun h1 => ⟨(h.has h1).1, hl _ h.a1 (h.has h1).2.1, (h.has h1).2.2⟩, h.asked, h.k1, h.ser, fun x hx hr hu => ⟨by have := (h.ups x hx hr hu).1; omega, (h.ups x hx hr hu).2⟩, h.ques,
   fun x hx hr h1 h2 h3 h4 => ⟨fun a o ha => hl a (by obtain ⟨_, a', h5, _, h6⟩ := h.asked h4; rw [ha] at h5; simp at h5; omega) ((h.ans x hx hr h1 h2 h3 h4).1 a o ha), fun hk => ⟨by have := ((h.ans x hx hr h1 h2 h3 h4).2 hk).1; omega, ((h.ans x hx hr h1 h2 h3 h4).2 hk).2⟩⟩⟩

/-- A lease that the region has given up. -/
theorem SideOk.gone {n r : Int} {d : Sd} {l l' : L} {bag : List Lt} {clk : Int} (h : SideOk n r d l bag clk) {x : Lt} (hx : x ∈ bag) (hr : x.r = r) (hu : x.up) (he : x.e = l.e) (hl : l.e ≤ l'.e) : SideOk n r d l' bag clk := by
  have h0 : d.g.e = 0 := by
    apply Classical.byContradiction; intro hne
    have := (h.ups x hx hr hu).2 hne; have := h.e; omega
  refine ⟨h.fine, h.c, h.s, by have := h.e; omega, h.a0, h.a1, h.o0, h.o1, fun h1 => absurd h0 h1, h.asked, h.k1, h.ser, fun y hy hr hu => ⟨by have := (h.ups y hy hr hu).1; omega, (h.ups y hy hr hu).2⟩, h.ques, ?_⟩
  intro y hy hyr h1 h2 h3 h4
  exfalso
  have hf := h.fine
  have hk : d.g.k = 1 := by
    have := hf.k0; have := hf.k2
    apply Classical.byContradiction; intro hne
    exact hf.ke (by omega) h0
  obtain ⟨h5, h6⟩ := (h.ans y hy hyr h1 h2 h3 h4).2 hk
  have := h6 x hx hr hu
  omega

/-- An answer. -/
theorem SideOk.answer {n r : Int} {d : Sd} {l : L} {bag : List Lt} {clk : Int} (h : SideOk n r d l bag clk) {k s e : Int} (hs : s ≤ d.g.s)
    (ha : k ≠ 0 → s = d.g.s → d.g.k ≠ 0 → (∀ a, a ≤ clk → Long r a l clk) ∧ (d.g.k = 1 → e ≤ l.e ∧ ∀ y ∈ bag, y.r = r → y.up → y.e < e)) : SideOk n r d l (bag ++ [⟨r, true, k, s, e⟩]) clk := by
  refine ⟨h.fine, h.c, h.s, h.e, h.a0, h.a1, h.o0, h.o1, h.has, h.asked, h.k1, ?_, ?_, ?_, ?_⟩
  · intro x hx hr
    rcases mem_snoc.1 hx with hx | rfl
    · exact h.ser x hx hr
    · exact hs
  · intro x hx hr hu
    rcases mem_snoc.1 hx with hx | rfl
    · exact h.ups x hx hr hu
    · simp [Lt.up] at hu
  · intro x hx hr h1
    rcases mem_snoc.1 hx with hx | rfl
    · exact h.ques x hx hr h1
    · simp at h1
  · intro x hx hr h1 h2 h3 h4
    rcases mem_snoc.1 hx with hx | rfl
    · refine ⟨(h.ans x hx hr h1 h2 h3 h4).1, fun hk => ⟨((h.ans x hx hr h1 h2 h3 h4).2 hk).1, fun y hy hyr hyu => ?_⟩⟩
      rcases mem_snoc.1 hy with hy | rfl
      · exact ((h.ans x hx hr h1 h2 h3 h4).2 hk).2 y hy hyr hyu
      · simp [Lt.up] at hyu
    · obtain ⟨h5, h6⟩ := ha h2 h3 h4
      refine ⟨fun a o ho => h5 a ?_, fun hk => ⟨(h6 hk).1, fun y hy hyr hyu => ?_⟩⟩
      · obtain ⟨_, a', h7, _, h8⟩ := h.asked h4; rw [ho] at h7; simp at h7; omega
      · rcases mem_snoc.1 hy with hy | rfl
        · exact (h6 hk).2 y hy hyr hyu
        · simp [Lt.up] at hyu

/-- Who believes, and is not too slow, has the lease. -/
theorem SideOk.owner {n r : Int} {d : Sd} {l : L} {bag : List Lt} {clk : Int} (h : SideOk n r d l bag clk) (hb : Gd.bel d.g = true) (hd : d.h = true → clk - d.a - (d.g.c - d.o) ≤ 4) : l.o = r := by
  obtain ⟨h1, h2⟩ := bel_may hb
  obtain ⟨h3, h4, h5⟩ := h.has h2
  have := hd h3
  rcases h4 with h4 | h4
  · omega
  · exact h4.1

structure Inv (n : Int) (x y : Sd) (l : L) (bag : List Lt) (clk : Int) : Prop where
  x : SideOk n 0 x l bag clk
  y : SideOk n 1 y l bag clk
  l : LeaseOk n l clk
  len : (bag.length : Int) ≤ n
  reg : ∀ z ∈ bag, z.r = 0 ∨ z.r = 1

theorem Inv.sub {n : Int} {x y : Sd} {l : L} {bag bag' : List Lt} {clk : Int} (h : Inv n x y l bag clk) (hb : ∀ z ∈ bag', z ∈ bag) (hl : (bag'.length : Int) ≤ n) : Inv n x y l bag' clk :=
  ⟨h.x.sub hb, h.y.sub hb, h.l, hl, fun z hz => h.reg z (hb z hz)⟩
theorem Inv.up {n m : Int} {x y : Sd} {l : L} {bag : List Lt} {clk : Int} (h : Inv n x y l bag clk) (hn : n ≤ m) : Inv m x y l bag clk :=
  ⟨h.x.up hn, h.y.up hn, h.l.up hn, by have := h.len; omega, h.reg⟩

theorem LeaseOk.mk' {n o e : Int} {l : L} {clk : Int} (h : LeaseOk n l clk) (hn : n ≤ 400) (ho : o = 0 ∨ o = 1) (he : e = l.e ∨ e = l.e + 1) (hp : e ≠ 0) : LeaseOk (n + 1) ⟨o, o, e, clk, clk + 16, false⟩ clk := by
  have h1 := h.c; have h2 := h.c1; have h3 := h.c0; have h4 := h.e
  have hc := (chk_iff l).1 h.chk
  refine ⟨(chk_iff _).2 ?_, rfl, rfl, h3, by omega, by simp only; omega⟩
  simp only
  refine ⟨by omega, by omega, by omega, by omega, by omega, by simp, by omega, by omega, by omega⟩

theorem more16 {n : Int} {l : L} {clk : Int} (h : LeaseOk n l clk) (hn : n ≤ 400) : Ls.more l.c 16 = clk + 16 := by
  have h1 := h.c; have h2 := h.c1
  unfold Ls.more; rw [if_neg (by omega), h1]

theorem reg_ok {r : Int} (h : r = 0 ∨ r = 1) : Ls.region r = true := by unfold Ls.region; rcases h with rfl | rfl <;> rfl

theorem acq {n r : Int} {l : L} {clk : Int} (h : LeaseOk n l clk) (hn : n ≤ 400) (hr : r = 0 ∨ r = 1) :
    LeaseOk (n + 1) (Ls.acquire l r).1 clk ∧ (((Ls.acquire l r).2.2 ≠ 0 ∧ (Ls.acquire l r).1 = l) ∨ ((Ls.acquire l r).2.2 = 0 ∧ (Ls.acquire l r).2.1 = l.e + 1 ∧ (Ls.acquire l r).1 = ⟨r, r, l.e + 1, clk, clk + 16, false⟩ ∧ (l.o ≠ r → l.o ≠ -1 → l.u ≤ clk))) := by
  have h1 := h.c; have h2 := h.c1; have h3 := h.c0; have h4 := h.e; have hz := h.z
  have hc := (chk_iff l).1 h.chk
  unfold Ls.acquire
  rw [if_neg (by rw [reg_ok hr]; simp [h.chk])]
  split
  · exact ⟨h.up (by omega), .inl ⟨by simp, rfl⟩⟩
  · rename_i hh
    rw [if_neg (by simp [hz])]
    split
    · omega
    · have hg : Ls.grant l r = ⟨r, r, l.e + 1, clk, clk + 16, false⟩ := by
        unfold Ls.grant; rw [more16 h hn, hz, h1]; simp
      rw [hg]
      refine ⟨h.mk' hn hr (.inr rfl) (by omega), .inr ⟨rfl, rfl, rfl, fun ho ho' => ?_⟩⟩
      have : ¬ Ls.held l = true := fun hx => hh ⟨hx, ho⟩
      unfold Ls.held at this
      simp [h.chk, ho'] at this; omega

theorem mine_is {n r e : Int} {l : L} {clk : Int} (h : LeaseOk n l clk) (hr : r = 0 ∨ r = 1) : Ls.mine l r e = if l.o ≠ r ∨ l.e ≠ e then 132 else 0 := by
  unfold Ls.mine; rw [if_neg (by rw [reg_ok hr]; simp [h.chk])]

theorem ren {n r e : Int} {l : L} {clk : Int} (h : LeaseOk n l clk) (hn : n ≤ 400) (hr : r = 0 ∨ r = 1) :
    LeaseOk (n + 1) (Ls.renew l r e).1 clk ∧ (((Ls.renew l r e).2 ≠ 0 ∧ (Ls.renew l r e).1 = l) ∨ ((Ls.renew l r e).2 = 0 ∧ l.o = r ∧ l.e = e ∧ (Ls.renew l r e).1 = ⟨r, r, l.e, clk, clk + 16, false⟩)) := by
  have h1 := h.c; have hz := h.z
  have hc := (chk_iff l).1 h.chk
  unfold Ls.renew
  rw [mine_is h hr]
  by_cases hx : l.o ≠ r ∨ l.e ≠ e
  · rw [if_pos hx, if_pos (by decide : (132 : Int) ≠ 0)]; exact ⟨h.up (by omega), .inl ⟨by show (132 : Int) ≠ 0; decide, rfl⟩⟩
  · rw [if_neg hx, if_neg (by decide : ¬ (0 : Int) ≠ 0)]
    have ho : l.o = r ∧ l.e = e := by omega
    have hp : l.p = r := by rw [← hc.2.2.2.2.2.1 (by omega)]; exact ho.1
    rw [more16 h hn, h1, hz, hp, ho.1]
    exact ⟨h.mk' hn hr (.inl rfl) (hc.2.2.2.2.2.2.2.1 (by omega)), .inr ⟨rfl, rfl, ho.2, rfl⟩⟩

theorem rel {n r e : Int} {l : L} {clk : Int} (h : LeaseOk n l clk) (hr : r = 0 ∨ r = 1) :
    LeaseOk (n + 1) (Ls.release l r e).1 clk ∧ ((Ls.release l r e).1 = l ∨ (l.o = r ∧ l.e = e ∧ (Ls.release l r e).1 = ⟨-1, l.p, l.e, clk, clk, l.z⟩)) := by
  have h1 := h.c; have h2 := h.c1; have h3 := h.c0; have h4 := h.e; have hz := h.z
  have hc := (chk_iff l).1 h.chk
  unfold Ls.release
  rw [mine_is h hr]
  by_cases hx : l.o ≠ r ∨ l.e ≠ e
  · rw [if_pos hx, if_pos (by decide : (132 : Int) ≠ 0)]; exact ⟨h.up (by omega), .inl rfl⟩
  · rw [if_neg hx, if_neg (by decide : ¬ (0 : Int) ≠ 0)]
    have ho : l.o = r ∧ l.e = e := by omega
    rw [h1]
    refine ⟨⟨(chk_iff _).2 ?_, rfl, hz, h3, by omega, by simp only; omega⟩, .inr ⟨ho.1, ho.2, rfl⟩⟩
    simp only
    refine ⟨by simp, hc.2.1, hc.2.2.1, by omega, by omega, by simp, hc.2.2.2.2.2.2.1, hc.2.2.2.2.2.2.2.1, by omega⟩

theorem tra {n r e : Int} {l : L} {clk : Int} (h : LeaseOk n l clk) (hn : n ≤ 400) (hr : r = 0 ∨ r = 1) :
    LeaseOk (n + 1) (Ls.transfer l r e (1 - r)).1 clk ∧ ((Ls.transfer l r e (1 - r)).1 = l ∨ (l.o = r ∧ l.e = e ∧ (Ls.transfer l r e (1 - r)).1 = ⟨1 - r, 1 - r, l.e + 1, clk, clk + 16, false⟩)) := by
  have h1 := h.c; have h2 := h.c1; have h3 := h.c0; have h4 := h.e; have hz := h.z
  have hc := (chk_iff l).1 h.chk
  unfold Ls.transfer
  rw [if_neg (by rw [reg_ok hr, reg_ok (r := 1 - r) (by omega)]; simp [h.chk]; omega), mine_is h hr]
  by_cases hx : l.o ≠ r ∨ l.e ≠ e
  · rw [if_pos hx, if_pos (by decide : (132 : Int) ≠ 0)]; exact ⟨h.up (by omega), .inl rfl⟩
  · rw [if_neg hx, if_neg (by decide : ¬ (0 : Int) ≠ 0)]
    have ho : l.o = r ∧ l.e = e := by omega
    rw [if_neg (by simp [hz])]
    split
    · omega
    · have hg : Ls.grant l (1 - r) = ⟨1 - r, 1 - r, l.e + 1, clk, clk + 16, false⟩ := by
        unfold Ls.grant; rw [more16 h hn, hz, h1]; simp
      rw [hg]
      exact ⟨h.mk' hn (by omega) (.inr rfl) (by omega), .inr ⟨ho.1, ho.2, rfl⟩⟩

/-- What the two sides make of an answer to a question for the lease. -/
theorem SideOk.acquired {n r : Int} {d : Sd} {l : L} {bag : List Lt} {clk : Int} (h : SideOk n r d l bag clk) (hl : LeaseOk n l clk) (hn : n ≤ 400) {z : Lt} (hz : z ∈ bag) (hr : z.r = 0 ∨ z.r = 1) {k : Int} (hk : k = if (Ls.acquire l z.r).2.2 = 0 then 1 else 0) :
    SideOk (n + 1) r d (Ls.acquire l z.r).1 (bag ++ [⟨z.r, true, k, z.s, (Ls.acquire l z.r).2.1⟩]) clk := by
  refine SideOk.up (n := n) ?_ (by omega)
  obtain ⟨-, hq⟩ := acq hl hn hr
  rcases hq with ⟨h1, h2⟩ | ⟨h1, h2, h3, h4⟩
  · rw [h2, hk, if_neg h1]
    by_cases hzr : z.r = r
    · rw [hzr]
      exact h.answer (h.ser z hz hzr) (fun hx => absurd rfl hx)
    · exact h.other hzr
  · rw [h3, hk, if_pos h1, h2]
    by_cases hzr : z.r = r
    · rw [hzr]
      have h5 : SideOk n r d ⟨r, r, l.e + 1, clk, clk + 16, false⟩ bag clk := h.lease (by simp only; omega) (fun a ha _ => .inr ⟨rfl, by simp only; omega⟩)
      refine h5.answer (h.ser z hz hzr) (fun _ _ _ => ⟨fun a ha => .inr ⟨rfl, by simp only; omega⟩, fun _ => ⟨Int.le_refl _, fun y hy hyr hyu => ?_⟩⟩)
      have := (h.ups y hy hyr hyu).1; omega
    · refine SideOk.other (h.lease (by simp only; omega) (fun a ha hx => ?_)) hzr
      unfold Long at hx ⊢
      rcases hx with hx | ⟨hx, hx'⟩
      · exact .inl hx
      · left
        by_cases ho : l.o = -1
        · have := ((chk_iff l).1 hl.chk).2.2.2.2.2.2.2.2 ho
          have := hl.c; omega
        · have := h4 (by omega) ho; omega

theorem SideOk.renewed {n r : Int} {d : Sd} {l : L} {bag : List Lt} {clk : Int} (h : SideOk n r d l bag clk) (hl : LeaseOk n l clk) (hn : n ≤ 400) {z : Lt} (hz : z ∈ bag) (hr : z.r = 0 ∨ z.r = 1) (hb : z.b = false) (h2 : z.k = 2) {k : Int} (hk : k = if (Ls.renew l z.r z.e).2 = 0 then 1 else 0) :
    SideOk (n + 1) r d (Ls.renew l z.r z.e).1 (bag ++ [⟨z.r, true, k, z.s, z.e⟩]) clk := by
  refine SideOk.up (n := n) ?_ (by omega)
  obtain ⟨-, hq⟩ := ren (e := z.e) hl hn hr
  rcases hq with ⟨h1, h3⟩ | ⟨h1, h3, h4, h5⟩
  · rw [h3, hk, if_neg h1]
    by_cases hzr : z.r = r
    · rw [hzr]
      exact h.answer (h.ser z hz hzr) (fun hx => absurd rfl hx)
    · exact h.other hzr
  · rw [h5, hk, if_pos h1]
    by_cases hzr : z.r = r
    · rw [hzr]
      have h6 : SideOk n r d ⟨r, r, l.e, clk, clk + 16, false⟩ bag clk := h.lease (Int.le_refl _) (fun a ha _ => .inr ⟨rfl, by simp only; omega⟩)
      refine h6.answer (h.ser z hz hzr) (fun _ hs hx => ⟨fun a ha => .inr ⟨rfl, by simp only; omega⟩, fun hy => ?_⟩)
      have := h.ques z hz hzr hb (.inr h2) hs hx
      omega
    · refine SideOk.other (h.lease (by simp only; omega) (fun a ha hx => ?_)) (by exact hzr)
      unfold Long at hx ⊢
      rcases hx with hx | ⟨hx, hx'⟩
      · exact .inl hx
      · omega

theorem SideOk.released {n r : Int} {d : Sd} {l : L} {bag : List Lt} {clk : Int} (h : SideOk n r d l bag clk) (hl : LeaseOk n l clk) {z : Lt} (hz : z ∈ bag) (hr : z.r = 0 ∨ z.r = 1) (hu : z.up) :
    SideOk (n + 1) r d (Ls.release l z.r z.e).1 bag clk := by
  refine SideOk.up (n := n) ?_ (by omega)
  obtain ⟨-, hq⟩ := rel (e := z.e) hl hr
  rcases hq with h1 | ⟨h1, h2, h3⟩
  · rw [h1]; exact h
  · rw [h3]
    by_cases hzr : z.r = r
    · exact h.gone hz hzr hu h2.symm (Int.le_refl _)
    · refine h.lease (Int.le_refl _) (fun a ha hx => ?_)
      unfold Long at hx ⊢
      rcases hx with hx | ⟨hx, hx'⟩
      · exact .inl hx
      · omega

theorem SideOk.handed {n r : Int} {d : Sd} {l : L} {bag : List Lt} {clk : Int} (h : SideOk n r d l bag clk) (hl : LeaseOk n l clk) (hn : n ≤ 400) {z : Lt} (hz : z ∈ bag) (hr : z.r = 0 ∨ z.r = 1) (hu : z.up) (hr' : r = 0 ∨ r = 1) :
    SideOk (n + 1) r d (Ls.transfer l z.r z.e (1 - z.r)).1 bag clk := by
  refine SideOk.up (n := n) ?_ (by omega)
  obtain ⟨-, hq⟩ := tra (e := z.e) hl hn hr
  rcases hq with h1 | ⟨h1, h2, h3⟩
  · rw [h1]; exact h
  · rw [h3]
    by_cases hzr : z.r = r
    · exact h.gone hz hzr hu h2.symm (by simp only; omega)
    · refine h.lease (by simp only; omega) (fun a ha hx => ?_)
      unfold Long at hx ⊢
      right; simp only; omega

end Go.Nv
