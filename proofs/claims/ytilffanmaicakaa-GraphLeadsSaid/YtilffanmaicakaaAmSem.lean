/- What the abstract machine's words mean in the model's world, and that they stay true while the world goes on. -/
import Derived.Test.YtilffanmaicakaaAm
import Derived.Calls
import Derived.Scope
import Derived.Laws.World
import Derived.Laws.Cells
namespace Go.Pt
open Go

def All2 {α β : Type} (R : α → β → Prop) : List α → List β → Prop
  | [], [] => True
  | a :: l, b :: m => R a b ∧ All2 R l m
  | _, _ => False

section all2
variable {α β : Type} {R R' : α → β → Prop}
theorem All2.length : ∀ {l : List α} {m : List β}, All2 R l m → l.length = m.length
  | [], [], _ => rfl
  | _ :: _, _ :: _, h => by simp [All2.length h.2]
theorem All2.imp (hr : ∀ a b, R a b → R' a b) : ∀ {l : List α} {m : List β}, All2 R l m → All2 R' l m
  | [], [], _ => trivial
  | _ :: _, _ :: _, h => ⟨hr _ _ h.1, All2.imp hr h.2⟩
theorem All2.imp_mem : ∀ {l : List α} {m : List β}, (∀ a ∈ l, ∀ b, R a b → R' a b) → All2 R l m → All2 R' l m
  | [], [], _, _ => trivial
  | a :: l, _ :: _, hr, h => ⟨hr a (by simp) _ h.1, All2.imp_mem (fun x hx => hr x (by simp [hx])) h.2⟩
theorem All2.get : ∀ {l : List α} {m : List β} {i : Nat} {a : α}, All2 R l m → l[i]? = some a → ∃ b, m[i]? = some b ∧ R a b
  | [], _, _, _, _, e => by simp at e
  | x :: _, y :: _, 0, a, h, e => ⟨y, rfl, by simp at e; exact e ▸ h.1⟩
  | _ :: l, _ :: m, i + 1, a, h, e => by simpa using All2.get (i := i) h.2 (by simpa using e)
theorem All2.get' : ∀ {l : List α} {m : List β} {i : Nat} {b : β}, All2 R l m → m[i]? = some b → ∃ a, l[i]? = some a ∧ R a b
  | _, [], _, _, _, e => by simp at e
  | x :: _, y :: _, 0, a, h, e => ⟨x, rfl, by simp at e; exact e ▸ h.1⟩
  | _ :: l, _ :: m, i + 1, a, h, e => by simpa using All2.get' (i := i) h.2 (by simpa using e)
theorem All2.append : ∀ {l : List α} {m : List β} {l' : List α} {m' : List β}, All2 R l m → All2 R l' m' → All2 R (l ++ l') (m ++ m')
  | [], [], _, _, _, h => h
  | _ :: _, _ :: _, _, _, h, h' => ⟨h.1, All2.append h.2 h'⟩
theorem All2.drop : ∀ {l : List α} {m : List β} (n : Nat), All2 R l m → All2 R (l.drop n) (m.drop n)
  | [], [], 0, h => h
  | _ :: _, _ :: _, 0, h => h
  | [], [], _ + 1, h => h
  | _ :: _, _ :: _, n + 1, h => by simpa using All2.drop n h.2
theorem All2.take : ∀ {l : List α} {m : List β} (n : Nat), All2 R l m → All2 R (l.take n) (m.take n)
  | [], [], 0, _ => trivial
  | _ :: _, _ :: _, 0, _ => by simp [All2]
  | [], [], _ + 1, _ => trivial
  | _ :: _, _ :: _, n + 1, h => ⟨h.1, All2.take n h.2⟩
theorem All2.set : ∀ {l : List α} {m : List β} (n : Nat) {a : α} {b : β}, All2 R l m → R a b → All2 R (setN l n a) (m.set n b)
  | [], [], _, _, _, h, _ => h
  | _ :: _, _ :: _, 0, _, _, h, r => ⟨r, h.2⟩
  | _ :: _, _ :: _, n + 1, _, _, h, r => ⟨h.1, All2.set n h.2 r⟩
theorem All2.of_get : ∀ {l : List α} {m : List β}, l.length = m.length → (∀ (i : Nat) a b, l[i]? = some a → m[i]? = some b → R a b) → All2 R l m
  | [], [], _, _ => trivial
  | [], _ :: _, h, _ => by simp at h
  | _ :: _, [], h, _ => by simp at h
  | a :: l, b :: m, h, hr => ⟨hr 0 a b rfl rfl, All2.of_get (by simpa using h) (fun i x y hx hy => hr (i + 1) x y (by simpa using hx) (by simpa using hy))⟩
end all2

theorem nth_eq {α : Type} : ∀ (l : List α) (n : Nat), nth l n = l[n]?
  | [], _ => by simp [nth]
  | _ :: _, 0 => by simp [nth]
  | _ :: l, n + 1 => by simp [nth, nth_eq l n]
theorem setN_eq {α : Type} : ∀ (l : List α) (n : Nat) (a : α), setN l n a = l.set n a
  | [], _, _ => by simp [setN]
  | _ :: _, 0, _ => by simp [setN]
  | _ :: l, n + 1, a => by simp [setN, setN_eq l n]
theorem snoc_eq {α : Type} : ∀ (l : List α) (a : α), snoc l a = l ++ [a]
  | [], _ => rfl
  | _ :: l, a => by simp [snoc, snoc_eq l]
theorem lenN_eq {α : Type} : ∀ (l : List α), lenN l = l.length
  | [] => rfl
  | _ :: l => by simp [lenN, lenN_eq l]
theorem cut_eq {α : Type} : ∀ (l : List α) (o n : Nat) {r : List α}, cut l o n = some r → r = (l.drop o).take n ∧ o + n ≤ l.length ∨ n = 0 ∧ r = []
  | l, o, 0, r, h => by cases l <;> (simp [cut] at h; exact .inr ⟨rfl, by simp [h]⟩)
  | [], o, n + 1, r, h => by simp [cut] at h
  | x :: l, 0, n + 1, r, h => by
    simp only [cut, Option.map_eq_some_iff] at h
    obtain ⟨r', h', rfl⟩ := h
    rcases cut_eq l 0 n h' with ⟨rfl, hl⟩ | ⟨rfl, rfl⟩
    · exact .inl ⟨by simp, by simp; omega⟩
    · exact .inl ⟨by simp, by simp⟩
  | x :: l, o + 1, n + 1, r, h => by
    simp only [cut] at h
    rcases cut_eq l o (n + 1) h with ⟨rfl, hl⟩ | ⟨h, _⟩
    · exact .inl ⟨by simp, by simp; omega⟩
    · omega
theorem upon_eq {α : Type} : ∀ (l : List α) (o : Nat) (ys : List α) {r : List α}, upon l o ys = some r → r = l.take o ++ ys ++ l.drop (o + ys.length) ∧ (ys ≠ [] → o + ys.length ≤ l.length) ∧ r.length = l.length
  | l, o, [], r, h => by cases l <;> (simp [upon] at h; subst h; simp)
  | [], o, y :: ys, r, h => by simp [upon] at h
  | x :: l, 0, y :: ys, r, h => by
    simp only [upon, Option.map_eq_some_iff] at h
    obtain ⟨r', h', rfl⟩ := h
    obtain ⟨rfl, h2, h3⟩ := upon_eq l 0 ys h'
    refine ⟨by simp, fun _ => ?_, by simpa using h3⟩
    by_cases e : ys = []
    · simp [e]
    · have := h2 e; simp; omega
  | x :: l, o + 1, y :: ys, r, h => by
    simp only [upon, Option.map_eq_some_iff] at h
    obtain ⟨r', h', rfl⟩ := h
    obtain ⟨rfl, h2, h3⟩ := upon_eq l o (y :: ys) h'
    refine ⟨?_, fun _ => by have := h2 (by simp); simp at this ⊢; omega, by simpa using h3⟩
    rw [show o + 1 + (y :: ys).length = (o + (y :: ys).length) + 1 by omega]
    simp

structure Loc where
  blk : Nat
  start : Nat
  stop : Nat
  pos : Nat

/-- Where the heap's places are: a variable's or a map's block, a tip's spare cells; x: cells that are somebody else's, neither to be read nor written; m: from where on the activation's own marks are. -/
structure Ro where
  b : Nat → Nat
  t : Nat → Loc
  x : Nat → Nat → Prop
  m : Nat

abbrev cellAt (w : World) (b o : Nat) : Option Value := w.cell? ⟨b, o, none⟩

def hdr (l : Loc) (s len cap : Nat) (a : Option Addr) : Prop :=
  l.start + (cap - len) * s = l.stop ∧ (len < cap → ∃ o, a = some ⟨l.blk, o, none⟩ ∧ o + len * s = l.start)

def tokOk (ρ : Ro) (n s len cap : Nat) (a : Option Addr) : Tok → Prop
  | .no => True
  | .full => cap = len
  | .tip id pos => id < n ∧ pos ≤ (ρ.t id).pos ∧ ((ρ.t id).pos = pos → hdr (ρ.t id) s len cap a)

/-- Cells of memory, from (b, o) on, read as these values, and nobody of ours may write them. -/
def Reads (w : World) (S : Nat → Nat → Prop) (b o : Nat) (vs : List Value) : Prop :=
  ∀ j u, vs[j]? = some u → S b (o + j) ∧ cellAt w b (o + j) = some u ∧ u.oneCell' = true

def Cz (w : World) (S : Nat → Nat → Prop) (ρ : Ro) : Nat → Nat → AV → Value → Prop
  | 0, _, _, _ => False
  | d + 1, n, a, v => match a with
    | .int k x => v = .int k x
    | .bool b => v = .bool b
    | .bl b => v = .bool b
    | .str s => v = .string s
    | .agg cs => ∃ vs : List Value, v = .agg vs.toArray ∧ All2 (Cz w S ρ d n) cs vs
    | .tup cs => ∃ vs : List Value, v = .tuple vs.toArray ∧ All2 (Cz w S ρ d n) cs vs
    | .sl s xs t => ∃ ad len cap, v = .slice ad len cap ∧ len = xs.length ∧ len ≤ cap ∧ tokOk ρ n s len cap ad t ∧
        (xs ≠ [] → ∃ b o, ad = some ⟨b, o, none⟩ ∧ ∀ (i : Nat) x, xs[i]? = some x → ∃ vs, All2 (Cz w S ρ d 0) x.cells vs ∧ vs.length = s ∧ Reads w S b (o + i * s) vs)
    | .nils => v = .slice none 0 0
    | .ms id off _ len => id < n ∧ ∃ cap, len ≤ cap ∧ v = .slice (some ⟨ρ.b id, off, none⟩) len cap
    | .vs id s lo k N => id < n ∧ ∃ (ad : Option Addr) (len cap : Nat), v = .slice ad len cap ∧ k = len ∧ len ≤ cap ∧ (0 < cap → ∃ b o, ad = some ⟨b, o, none⟩) ∧ ∃ l : Nat, lo = l ∧ N ≤ ((l + cap : Nat) : Int) ∧
        ((ρ.t id).pos = 0 → 0 < cap → ad = some ⟨(ρ.t id).blk, (ρ.t id).start + l * s, none⟩ ∧ (ρ.t id).start + (l + cap) * s ≤ (ρ.t id).stop)
    | .vp id s i off => id < n ∧ ∃ b o, v = .pointer (some ⟨b, o, none⟩) ∧ ((ρ.t id).pos = 0 → ∃ k : Nat, i = k ∧ b = (ρ.t id).blk ∧ o = (ρ.t id).start + k * s + off)
    | .ptr id off => id < n ∧ v = .pointer (some ⟨ρ.b id, off, none⟩)
    | .cptr cs off => ∃ b o vs, v = .pointer (some ⟨b, o + off, none⟩) ∧ All2 (Cz w S ρ d 0) cs vs ∧ Reads w S b o vs
    | .nilp => v = .pointer none
    | .mp id => id < n ∧ v = .map (some (ρ.b id))
    | .nilm => v = .map none
    | .func f caps => ∃ vs : List Value, v = .func (.func f) #[] vs.toArray ∧ All2 (Cz w S ρ d n) caps vs
    | .nilf => v = .nilFunc
    | .iface t x => ∃ u, v = .iface t u ∧ Cz w S ρ d n x u
    | .nili => v = .nilIface
    | .cond g a => (g = true → Cz w S ρ d n a v) ∧ (g = false → v = undef)
    | .yld id => id < n ∧ v = .func (.yield (ρ.b id)) #[] #[]
    | .junk => True

/-- What keeps a reading true. -/
structure Keeps (w w' : World) (S S' : Nat → Nat → Prop) (ρ ρ' : Ro) (n n' : Nat) : Prop where
  rd : ∀ b o u, S b o → cellAt w b o = some u → S' b o ∧ cellAt w' b o = some u
  le : n ≤ n'
  b : ∀ i, i < n → ρ'.b i = ρ.b i
  t : ∀ i, i < n → ρ'.t i = ρ.t i ∨ (ρ.t i).pos < (ρ'.t i).pos

theorem Keeps.zero {w w' : World} {S S' : Nat → Nat → Prop} {ρ ρ' : Ro} {n n' : Nat} (h : Keeps w w' S S' ρ ρ' n n') : Keeps w w' S S' ρ ρ' 0 0 :=
  ⟨h.rd, Nat.le_refl _, fun i hi => by omega, fun i hi => by omega⟩

theorem Reads.keep {w w' : World} {S S' : Nat → Nat → Prop} (h : ∀ b o u, S b o → cellAt w b o = some u → S' b o ∧ cellAt w' b o = some u) {b o : Nat} {vs : List Value}
    (hr : Reads w S b o vs) : Reads w' S' b o vs := fun j u hu => ⟨(h _ _ _ (hr j u hu).1 (hr j u hu).2.1).1, (h _ _ _ (hr j u hu).1 (hr j u hu).2.1).2, (hr j u hu).2.2⟩

theorem tokOk.keep {w w' : World} {S S' : Nat → Nat → Prop} {ρ ρ' : Ro} {n n' : Nat} (h : Keeps w w' S S' ρ ρ' n n') {s len cap : Nat} {a : Option Addr} {t : Tok}
    (ht : tokOk ρ n s len cap a t) : tokOk ρ' n' s len cap a t := by
  cases t with
  | no => trivial
  | full => exact ht
  | tip id pos =>
    obtain ⟨h1, h2, h3⟩ := ht
    rcases h.t id h1 with e | e
    · exact ⟨Nat.lt_of_lt_of_le h1 h.le, by rw [e]; exact h2, by rw [e]; exact h3⟩
    · exact ⟨Nat.lt_of_lt_of_le h1 h.le, by omega, fun e' => by omega⟩

theorem Cz.keep : ∀ (d : Nat) {w w' : World} {S S' : Nat → Nat → Prop} {ρ ρ' : Ro} {n n' : Nat}, Keeps w w' S S' ρ ρ' n n' → ∀ (a : AV) (v : Value), Cz w S ρ d n a v → Cz w' S' ρ' d n' a v := by
  intro d
  induction d with
  | zero => intro w w' S S' ρ ρ' n n' _ a v h; exact h.elim
  | succ d ih =>
    intro w w' S S' ρ ρ' n n' hk a v h
    cases a with
    | agg cs => obtain ⟨vs, rfl, h⟩ := h; exact ⟨vs, rfl, h.imp (ih hk)⟩
    | tup cs => obtain ⟨vs, rfl, h⟩ := h; exact ⟨vs, rfl, h.imp (ih hk)⟩
    | sl s xs t =>
      obtain ⟨ad, len, cap, rfl, hl, hc, ht, h⟩ := h
      refine ⟨ad, len, cap, rfl, hl, hc, ht.keep hk, fun hx => ?_⟩
      obtain ⟨b, o, e, h⟩ := h hx
      refine ⟨b, o, e, fun i x hi => ?_⟩
      obtain ⟨vs, h1, h2, h3⟩ := h i x hi
      exact ⟨vs, h1.imp (ih hk.zero), h2, h3.keep hk.rd⟩
    | ms id off s len => obtain ⟨h1, cap, h2, h3⟩ := h; exact ⟨Nat.lt_of_lt_of_le h1 hk.le, cap, h2, by rw [hk.b _ h1]; exact h3⟩
    | vs id s lo k N =>
      obtain ⟨h1, ad, len, cap, e, h2, h3, h5, h4⟩ := h
      obtain ⟨l, h6, h7, h4⟩ := h4
      refine ⟨Nat.lt_of_lt_of_le h1 hk.le, ad, len, cap, e, h2, h3, h5, l, h6, h7, fun hp => ?_⟩
      rcases hk.t id h1 with e | e
      · rw [e] at hp ⊢; exact h4 hp
      · omega
    | vp id s i off =>
      obtain ⟨h1, b, o, e, h4⟩ := h
      refine ⟨Nat.lt_of_lt_of_le h1 hk.le, b, o, e, fun hp => ?_⟩
      rcases hk.t id h1 with e | e
      · rw [e] at hp ⊢; exact h4 hp
      · omega
    | ptr id off => exact ⟨Nat.lt_of_lt_of_le h.1 hk.le, by rw [hk.b _ h.1]; exact h.2⟩
    | cptr cs off => obtain ⟨b, o, vs, e, h1, h2⟩ := h; exact ⟨b, o, vs, e, h1.imp (ih hk.zero), h2.keep hk.rd⟩
    | mp id => exact ⟨Nat.lt_of_lt_of_le h.1 hk.le, by rw [hk.b _ h.1]; exact h.2⟩
    | yld id => exact ⟨Nat.lt_of_lt_of_le h.1 hk.le, by rw [hk.b _ h.1]; exact h.2⟩
    | func f caps => obtain ⟨vs, rfl, h⟩ := h; exact ⟨vs, rfl, h.imp (ih hk)⟩
    | iface t x => obtain ⟨u, e, h⟩ := h; exact ⟨u, e, ih hk _ _ h⟩
    | cond g a => exact ⟨fun e => ih hk _ _ (h.1 e), h.2⟩
    | _ => exact h

theorem Cz.succ : ∀ (d : Nat) {w : World} {S : Nat → Nat → Prop} {ρ : Ro} {n : Nat} (a : AV) (v : Value), Cz w S ρ d n a v → Cz w S ρ (d + 1) n a v := by
  intro d
  induction d with
  | zero => intro w S ρ n a v h; exact h.elim
  | succ d ih =>
    intro w S ρ n a v h
    cases a with
    | agg cs => obtain ⟨vs, rfl, h⟩ := h; exact ⟨vs, rfl, h.imp ih⟩
    | tup cs => obtain ⟨vs, rfl, h⟩ := h; exact ⟨vs, rfl, h.imp ih⟩
    | sl s xs t =>
      obtain ⟨ad, len, cap, rfl, hl, hc, ht, h⟩ := h
      refine ⟨ad, len, cap, rfl, hl, hc, ht, fun hx => ?_⟩
      obtain ⟨b, o, e, h⟩ := h hx
      refine ⟨b, o, e, fun i x hi => ?_⟩
      obtain ⟨vs, h1, h2, h3⟩ := h i x hi
      exact ⟨vs, h1.imp ih, h2, h3⟩
    | cptr cs off => obtain ⟨b, o, vs, e, h1, h2⟩ := h; exact ⟨b, o, vs, e, h1.imp ih, h2⟩
    | func f caps => obtain ⟨vs, rfl, h⟩ := h; exact ⟨vs, rfl, h.imp ih⟩
    | iface t x => obtain ⟨u, e, h⟩ := h; exact ⟨u, e, ih _ _ h⟩
    | cond g a => exact ⟨fun e => ih _ _ (h.1 e), h.2⟩
    | _ => exact h

theorem Cz.le {d d' : Nat} (h : d ≤ d') {w : World} {S : Nat → Nat → Prop} {ρ : Ro} {n : Nat} {a : AV} {v : Value} (hc : Cz w S ρ d n a v) : Cz w S ρ d' n a v := by
  induction h with
  | refl => exact hc
  | step _ ih => exact Cz.succ _ _ _ ih

/-- The value v reads as a. -/
def Val (w : World) (S : Nat → Nat → Prop) (ρ : Ro) (n : Nat) (a : AV) (v : Value) : Prop := ∃ d, Cz w S ρ d n a v

theorem all2_depth {w : World} {S : Nat → Nat → Prop} {ρ : Ro} {n : Nat} : ∀ {l : List AV} {m : List Value}, All2 (Val w S ρ n) l m → ∃ d, All2 (Cz w S ρ d n) l m
  | [], [], _ => ⟨0, trivial⟩
  | _ :: _, _ :: _, h => by
    obtain ⟨⟨d, h1⟩, h2⟩ := h
    obtain ⟨e, h2⟩ := all2_depth h2
    exact ⟨max d e, Cz.le (Nat.le_max_left _ _) h1, h2.imp fun a v => Cz.le (Nat.le_max_right _ _)⟩

theorem vals_of {w : World} {S : Nat → Nat → Prop} {ρ : Ro} {n d : Nat} {l : List AV} {m : List Value} (h : All2 (Cz w S ρ d n) l m) : All2 (Val w S ρ n) l m := h.imp fun _ _ h => ⟨d, h⟩

theorem Val.keep {w w' : World} {S S' : Nat → Nat → Prop} {ρ ρ' : Ro} {n n' : Nat} (hk : Keeps w w' S S' ρ ρ' n n') {a : AV} {v : Value} (h : Val w S ρ n a v) : Val w' S' ρ' n' a v :=
  let ⟨d, h⟩ := h; ⟨d, Cz.keep d hk a v h⟩

theorem Val.junk {w : World} {S : Nat → Nat → Prop} {ρ : Ro} {n : Nat} {v : Value} : Val w S ρ n .junk v := ⟨1, trivial⟩

/-- The cells of a value that reads as a. -/
theorem Val.cells {w : World} {S : Nat → Nat → Prop} {ρ : Ro} {n : Nat} {a : AV} {v : Value} (h : Val w S ρ n a v) (h1 : allOne a.cells = true) : All2 (Val w S ρ n) a.cells v.cells.toList ∧ ∀ u ∈ v.cells.toList, u.oneCell' = true := by
  have one : ∀ {a : AV} {v : Value}, Val w S ρ n a v → a.one = true → v.oneCell' = true := by
    rintro a v ⟨d, h⟩ h1
    cases d with
    | zero => exact h.elim
    | succ d => cases a <;> first | (simp [AV.one] at h1; done) | (simp [Cz] at h; done) | skip
                all_goals (simp only [Cz] at h)
                all_goals first | (subst h; rfl) | (obtain ⟨_, rfl⟩ := h; rfl) | (obtain ⟨_, _, _, rfl, _⟩ := h; rfl) | (obtain ⟨_, _, _, rfl⟩ := h; rfl) | (obtain ⟨_, rfl, _⟩ := h; rfl) | (obtain ⟨_, _, _, _, rfl, _⟩ := h; rfl)
  have allone : ∀ {l : List AV} {m : List Value}, All2 (Val w S ρ n) l m → allOne l = true → ∀ u ∈ m, u.oneCell' = true := by
    intro l
    induction l with
    | nil => intro m h _; cases m <;> simp [All2] at h; simp
    | cons a l ih =>
      intro m h h1
      cases m with
      | nil => simp [All2] at h
      | cons v m =>
        obtain ⟨h, h'⟩ := h
        simp only [allOne] at h1
        split at h1
        · rename_i e
          intro u hu
          rcases List.mem_cons.1 hu with rfl | hu
          · exact one h e
          · exact ih h' h1 u hu
        · simp at h1
  obtain ⟨d, hd⟩ := h
  cases d with
  | zero => exact hd.elim
  | succ d =>
    by_cases hc : ∃ cs, a = .agg cs
    · obtain ⟨cs, rfl⟩ := hc
      obtain ⟨vs, rfl, h⟩ := hd
      exact ⟨vals_of h, allone (vals_of h) h1⟩
    · have e : a.cells = [a] := by cases a <;> first | rfl | exact absurd ⟨_, rfl⟩ hc
      rw [e] at h1 ⊢
      have o1 : a.one = true := by simp only [allOne] at h1; split at h1 <;> simp_all
      have hv : v.oneCell' = true := one ⟨d + 1, hd⟩ o1
      have ev : v.cells = #[v] := by cases v <;> first | rfl | simp [Value.oneCell'] at hv
      rw [ev]
      exact ⟨⟨⟨d + 1, hd⟩, trivial⟩, by simp [hv]⟩

def OwnE (ρ : Ro) (i b o : Nat) : Ent → Prop
  | .var _ => ρ.b i = b
  | .mp _ => ρ.b i = b
  | .lp .. => ρ.b i = b
  | .tip _ => (ρ.t i).blk = b ∧ (ρ.t i).start ≤ o ∧ o < (ρ.t i).stop
  | .vec _ _ => (ρ.t i).blk = b ∧ (ρ.t i).start ≤ o ∧ o < (ρ.t i).stop
  | .dead => False

/-- The cells that are ours to write. -/
def Own (ρ : Ro) (σ : List Ent) (b o : Nat) : Prop := ∃ i e, σ[i]? = some e ∧ OwnE ρ i b o e

abbrev Stay (ρ : Ro) (σ : List Ent) (b o : Nat) : Prop := ¬ Own ρ σ b o ∧ ¬ ρ.x b o

def EntOk (w : World) (S : Nat → Nat → Prop) (ρ : Ro) (n i : Nat) : Ent → Prop
  | .var cs => ∃ (vs : List Value) (e : TypeId), All2 (Val w S ρ n) cs vs ∧ w.heap[ρ.b i]? = some (.cells vs.toArray e (0, 0))
  | .tip pos => (ρ.t i).pos = pos ∧ (ρ.t i).start ≤ (ρ.t i).stop ∧ ((ρ.t i).start < (ρ.t i).stop → ∃ c e f, w.heap[(ρ.t i).blk]? = some (.cells c e f) ∧ (ρ.t i).stop ≤ c.size ∧ ∀ o, (ρ.t i).start ≤ o → o < (ρ.t i).stop → w.frozen? ⟨(ρ.t i).blk, o, none⟩ = false)
  | .vec s xs => (ρ.t i).pos = 0 ∧ (ρ.t i).start + xs.length * s ≤ (ρ.t i).stop ∧ ((ρ.t i).start < (ρ.t i).stop → ∃ c e f, w.heap[(ρ.t i).blk]? = some (.cells c e f) ∧ (ρ.t i).stop ≤ c.size ∧ ∀ o, (ρ.t i).start ≤ o → o < (ρ.t i).stop → w.frozen? ⟨(ρ.t i).blk, o, none⟩ = false) ∧
      ∀ (k : Nat) x, xs[k]? = some x → ∃ vs, All2 (Val w S ρ 0) x.cells vs ∧ vs.length = s ∧ ∀ (j : Nat) u, vs[j]? = some u → cellAt w (ρ.t i).blk ((ρ.t i).start + k * s + j) = some u ∧ u.oneCell' = true
  | .mp es => ∃ (ms : List MapEntry) (clock : Nat), w.heap[ρ.b i]? = some (.map ms.toArray clock) ∧ All2 (fun (x : AV × AV) (m : MapEntry) => Val w S ρ n x.1 m.key ∧ Val w S ρ n x.2 m.val) es ms ∧ (∀ m ∈ ms, m.born < clock) ∧ (ms.map (·.born)).Nodup
  | .lp ps asg body env k st pe => ∃ r : Loop, w.heap[ρ.b i]? = some (.loop r) ∧ r.params = ps.toArray ∧ r.assign = asg ∧ r.body = body ∧ r.state = st ∧ r.pending = pe ∧ r.tmps.size = k ∧ ∀ t, Val w S ρ n (look env t) (r.tmps.getD t undef)
  | .dead => True

structure Rel (ρ : Ro) (σ : List Ent) (w : World) : Prop where
  ents : ∀ (i : Nat) e, σ[i]? = some e → EntOk w (Stay ρ σ) ρ σ.length i e
  disj : ∀ (i j : Nat) e f b o, σ[i]? = some e → σ[j]? = some f → OwnE ρ i b o e → OwnE ρ j b o f → i = j
  xlt : ∀ b o, ρ.x b o → b < w.heap.size
  xown : ∀ b o, Own ρ σ b o → ¬ ρ.x b o

def okBlk (X : Nat → Prop) (a b : Obj) : Prop :=
  match a with
  | .cells c e f => ∃ c', b = .cells c' e f ∧ c'.size = c.size ∧ ∀ o : Nat, ¬ X o → c'[o]? = c[o]?
  | .loop r => ∃ r', b = .loop r' ∧ r'.defers = r.defers ∧ (X 0 ∨ r' = r)
  | a => X 0 ∨ b = a

/-- The world has gone on; only what was ours to write has been written. -/
structure StpN (n₀ : Nat) (ρ : Ro) (σ : List Ent) (w : World) (ρ' : Ro) (σ' : List Ent) (w' : World) : Prop where
  os : w'.os = w.os
  tape : w'.tape = w.tape
  output : w'.output = w.output
  size : w.heap.size ≤ w'.heap.size
  frm : ∀ (b : Nat) ob, w.heap[b]? = some ob → ∃ ob', w'.heap[b]? = some ob' ∧ okBlk (Own ρ σ b) ob ob'
  own : ∀ b o, b < w.heap.size → Own ρ' σ' b o → Own ρ σ b o
  len : n₀ ≤ σ'.length
  rb : ∀ i, i < n₀ → ρ'.b i = ρ.b i
  rt : ∀ i, i < n₀ → ρ'.t i = ρ.t i ∨ (ρ.t i).pos < (ρ'.t i).pos
  rx : ρ'.x = ρ.x
  rm : ρ'.m = ρ.m

/-- The same, all places of the heap staying. -/
abbrev Stp (ρ : Ro) (σ : List Ent) (w : World) (ρ' : Ro) (σ' : List Ent) (w' : World) : Prop := StpN σ.length ρ σ w ρ' σ' w'

theorem okBlk.refl (X : Nat → Prop) (o : Obj) : okBlk X o o := by cases o <;> simp [okBlk]

theorem okBlk.trans {X Y : Nat → Prop} {a b c : Obj} (h : okBlk X a b) (k : okBlk Y b c) (hy : ∀ o, Y o → X o) : okBlk X a c := by
  by_cases ha : ∃ ca ea fa, a = .cells ca ea fa
  · obtain ⟨ca, ea, fa, rfl⟩ := ha
    obtain ⟨cb, rfl, h1, h2⟩ := h
    obtain ⟨cc, rfl, k1, k2⟩ := k
    exact ⟨cc, rfl, k1.trans h1, fun o ho => (k2 o (fun y => ho (hy o y))).trans (h2 o ho)⟩
  by_cases hb : ∃ r, a = .loop r
  · obtain ⟨r, rfl⟩ := hb
    obtain ⟨r', rfl, h1, h2⟩ := h
    obtain ⟨r'', rfl, k1, k2⟩ := k
    refine ⟨r'', rfl, k1.trans h1, ?_⟩
    rcases h2 with h2 | rfl
    · exact .inl h2
    · exact k2.imp (hy 0) id
  · have e : ∀ (X : Nat → Prop) (b : Obj), okBlk X a b ↔ (X 0 ∨ b = a) := by
      intro X b
      cases a <;> first | exact absurd ⟨_, _, _, rfl⟩ ha | exact absurd ⟨_, rfl⟩ hb | exact Iff.rfl
    rw [e] at h ⊢
    rcases h with h | rfl
    · exact .inl h
    · rw [e] at k
      exact k.imp (hy 0) id

theorem Stp.refl (ρ : Ro) (σ : List Ent) (w : World) : Stp ρ σ w ρ σ w :=
  ⟨rfl, rfl, rfl, Nat.le_refl _, fun _ ob h => ⟨ob, h, okBlk.refl _ _⟩, fun _ _ _ h => h, Nat.le_refl _, fun _ _ => rfl, fun _ _ => .inl rfl, rfl, rfl⟩

theorem lt_of_heap {w : World} {b : Nat} {ob : Obj} (h : w.heap[b]? = some ob) : b < w.heap.size := by
  rcases Nat.lt_or_ge b w.heap.size with h' | h'
  · exact h'
  · simp [Array.getElem?_eq_none h'] at h

theorem StpN.trans {n₀ n₁ : Nat} {ρ : Ro} {σ : List Ent} {w : World} {ρ' : Ro} {σ' : List Ent} {w' : World} {ρ'' : Ro} {σ'' : List Ent} {w'' : World}
    (h : StpN n₀ ρ σ w ρ' σ' w') (k : StpN n₁ ρ' σ' w' ρ'' σ'' w'') (hn : n₀ ≤ n₁) : StpN n₀ ρ σ w ρ'' σ'' w'' where
  os := k.os.trans h.os
  tape := k.tape.trans h.tape
  output := k.output.trans h.output
  size := Nat.le_trans h.size k.size
  frm b ob hb := by
    obtain ⟨o1, h1, h2⟩ := h.frm b ob hb
    obtain ⟨o2, k1, k2⟩ := k.frm b o1 h1
    exact ⟨o2, k1, h2.trans k2 fun o ho => h.own b o (lt_of_heap hb) ho⟩
  own b o hb ho := h.own b o hb (k.own b o (Nat.lt_of_lt_of_le hb h.size) ho)
  len := Nat.le_trans hn k.len
  rb i hi := (k.rb i (Nat.lt_of_lt_of_le hi hn)).trans (h.rb i hi)
  rt i hi := by
    rcases h.rt i hi with e | e <;> rcases k.rt i (Nat.lt_of_lt_of_le hi hn) with f | f
    · exact .inl (f.trans e)
    · exact .inr (by rw [← e]; exact f)
    · exact .inr (by rw [f]; exact e)
    · exact .inr (by omega)
  rx := k.rx.trans h.rx
  rm := k.rm.trans h.rm

theorem StpN.trans' {n₀ : Nat} {ρ : Ro} {σ : List Ent} {w : World} {ρ' : Ro} {σ' : List Ent} {w' : World} {ρ'' : Ro} {σ'' : List Ent} {w'' : World}
    (h : StpN n₀ ρ σ w ρ' σ' w') (k : Stp ρ' σ' w' ρ'' σ'' w'') : StpN n₀ ρ σ w ρ'' σ'' w'' := StpN.trans h k h.len

theorem StpN.le {n₀ n₁ : Nat} {ρ : Ro} {σ : List Ent} {w : World} {ρ' : Ro} {σ' : List Ent} {w' : World} (h : StpN n₁ ρ σ w ρ' σ' w') (hn : n₀ ≤ n₁) : StpN n₀ ρ σ w ρ' σ' w' :=
  ⟨h.os, h.tape, h.output, h.size, h.frm, h.own, Nat.le_trans hn h.len, fun i hi => h.rb i (by omega), fun i hi => h.rt i (by omega), h.rx, h.rm⟩

theorem cellAt_of {w : World} {b o : Nat} {u : Value} (h : cellAt w b o = some u) : ∃ c e f, w.heap[b]? = some (.cells c e f) ∧ c[o]? = some u := by
  unfold cellAt World.cell? at h
  split at h
  · rename_i c e f hb
    exact ⟨c, e, f, hb, by simpa using h⟩
  · simp at h

theorem cellAt_cells {w : World} {b o : Nat} {c : Array Value} {e : TypeId} {f : Nat × Nat} (h : w.heap[b]? = some (.cells c e f)) : cellAt w b o = c[o]? := by
  simp [cellAt, World.cell?, h]

theorem StpN.keeps {n₀ : Nat} {ρ : Ro} {σ : List Ent} {w : World} {ρ' : Ro} {σ' : List Ent} {w' : World} (h : StpN n₀ ρ σ w ρ' σ' w') :
    Keeps w w' (Stay ρ σ) (Stay ρ' σ') ρ ρ' n₀ σ'.length where
  rd b o u hs hc := by
    obtain ⟨c, e, f, hb, hu⟩ := cellAt_of hc
    refine ⟨⟨fun ho => hs.1 (h.own b o (lt_of_heap hb) ho), by rw [h.rx]; exact hs.2⟩, ?_⟩
    obtain ⟨ob', hb', c', rfl, _, h4⟩ := h.frm b _ hb
    rw [cellAt_cells hb', h4 o hs.1, hu]
  le := h.len
  b := h.rb
  t := h.rt

theorem Val.step {ρ : Ro} {σ : List Ent} {w : World} {ρ' : Ro} {σ' : List Ent} {w' : World} (h : Stp ρ σ w ρ' σ' w') {a : AV} {v : Value}
    (hv : Val w (Stay ρ σ) ρ σ.length a v) : Val w' (Stay ρ' σ') ρ' σ'.length a v := hv.keep h.keeps

end Go.Pt
