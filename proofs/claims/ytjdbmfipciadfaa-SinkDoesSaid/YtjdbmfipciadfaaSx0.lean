/- Forms of elements. Written by lift.py. -/
import Derived.Test.YtjdbmfipciadfaaAmTab
import Derived.Test.YtjdbmfipciadfaaMa3

namespace Go.Proofs.Ytjdbmfipciadfaa.A
open Go Go.Pt

def sh2 {α : Type} (e : AV) (k : Int → Option α) : Option α := match e with | .int .i64 x0 => k x0 | _ => none
theorem sh2_go {α : Type} {e : AV} {k : Int → Option α} {r : α} {G : AV → Prop} (H : sh2 e k = some r) (h : ∀ (x0 : Int), k x0 = some r → G (.int .i64 x0)) : G e := by
  unfold sh2 at H
  split at H
  · exact h _ H
  · exact nomatch H
theorem sh2_get {α : Type} {x : Option AV} {k : Int → Option α} {r : α} {G : AV → Prop} (H : getA x (fun e => sh2 e k) = some r) (h : ∀ (x0 : Int), x = some (.int .i64 x0) → k x0 = some r → G (.int .i64 x0)) : ∀ e, x = some e → G e := fun e he => by
  have H2 : sh2 e k = some r := by rw [he] at H; exact H
  unfold sh2 at H2
  split at H2
  · exact h _ he H2
  · exact nomatch H2
theorem sh2_find {α : Type} {x : Option AV} {k : Int → Option α} {z : Option α} {r : α} {G1 : AV → Prop} {G2 : Prop} (H : findA x (fun e => sh2 e k) z = some r) (h1 : ∀ (x0 : Int), k x0 = some r → G1 (.int .i64 x0)) (h2 : z = some r → G2) : (∀ e, x = some e → G1 e) ∧ (x = none → G2) :=
  findA_go H (fun _ He => sh2_go He h1) h2

def sh4 {α : Type} (e : AV) (k : Bool → Option α) : Option α := match e with | .bool x0 => k x0 | _ => none
theorem sh4_go {α : Type} {e : AV} {k : Bool → Option α} {r : α} {G : AV → Prop} (H : sh4 e k = some r) (h : ∀ (x0 : Bool), k x0 = some r → G (.bool x0)) : G e := by
  unfold sh4 at H
  split at H
  · exact h _ H
  · exact nomatch H
theorem sh4_get {α : Type} {x : Option AV} {k : Bool → Option α} {r : α} {G : AV → Prop} (H : getA x (fun e => sh4 e k) = some r) (h : ∀ (x0 : Bool), x = some (.bool x0) → k x0 = some r → G (.bool x0)) : ∀ e, x = some e → G e := fun e he => by
  have H2 : sh4 e k = some r := by rw [he] at H; exact H
  unfold sh4 at H2
  split at H2
  · exact h _ he H2
  · exact nomatch H2
theorem sh4_find {α : Type} {x : Option AV} {k : Bool → Option α} {z : Option α} {r : α} {G1 : AV → Prop} {G2 : Prop} (H : findA x (fun e => sh4 e k) z = some r) (h1 : ∀ (x0 : Bool), k x0 = some r → G1 (.bool x0)) (h2 : z = some r → G2) : (∀ e, x = some e → G1 e) ∧ (x = none → G2) :=
  findA_go H (fun _ He => sh4_go He h1) h2

def sh31 {α : Type} (e : AV) (k : Int → Int → Int → List AV → List AV → Option α) : Option α := match e with | .agg [.int .i64 x0, .int .i64 x1, .int .i64 x2, .sl 2 x3 .no, .sl 1 x4 .no] => k x0 x1 x2 x3 x4 | _ => none
theorem sh31_go {α : Type} {e : AV} {k : Int → Int → Int → List AV → List AV → Option α} {r : α} {G : AV → Prop} (H : sh31 e k = some r) (h : ∀ (x0 : Int) (x1 : Int) (x2 : Int) (x3 : List AV) (x4 : List AV), k x0 x1 x2 x3 x4 = some r → G (.agg [.int .i64 x0, .int .i64 x1, .int .i64 x2, .sl 2 x3 .no, .sl 1 x4 .no])) : G e := by
  unfold sh31 at H
  split at H
  · exact h _ _ _ _ _ H
  · exact nomatch H
theorem sh31_get {α : Type} {x : Option AV} {k : Int → Int → Int → List AV → List AV → Option α} {r : α} {G : AV → Prop} (H : getA x (fun e => sh31 e k) = some r) (h : ∀ (x0 : Int) (x1 : Int) (x2 : Int) (x3 : List AV) (x4 : List AV), x = some (.agg [.int .i64 x0, .int .i64 x1, .int .i64 x2, .sl 2 x3 .no, .sl 1 x4 .no]) → k x0 x1 x2 x3 x4 = some r → G (.agg [.int .i64 x0, .int .i64 x1, .int .i64 x2, .sl 2 x3 .no, .sl 1 x4 .no])) : ∀ e, x = some e → G e := fun e he => by
  have H2 : sh31 e k = some r := by rw [he] at H; exact H
  unfold sh31 at H2
  split at H2
  · exact h _ _ _ _ _ he H2
  · exact nomatch H2
theorem sh31_find {α : Type} {x : Option AV} {k : Int → Int → Int → List AV → List AV → Option α} {z : Option α} {r : α} {G1 : AV → Prop} {G2 : Prop} (H : findA x (fun e => sh31 e k) z = some r) (h1 : ∀ (x0 : Int) (x1 : Int) (x2 : Int) (x3 : List AV) (x4 : List AV), k x0 x1 x2 x3 x4 = some r → G1 (.agg [.int .i64 x0, .int .i64 x1, .int .i64 x2, .sl 2 x3 .no, .sl 1 x4 .no])) (h2 : z = some r → G2) : (∀ e, x = some e → G1 e) ∧ (x = none → G2) :=
  findA_go H (fun _ He => sh31_go He h1) h2

def sh33 {α : Type} (e : AV) (k : Int → Int → Int → Int → List AV → List AV → Option α) : Option α := match e with | .agg [.int .i64 x0, .int .i64 x1, .int .i64 x2, .int .i64 x3, .sl 2 x4 .no, .sl 1 x5 .no] => k x0 x1 x2 x3 x4 x5 | _ => none
theorem sh33_go {α : Type} {e : AV} {k : Int → Int → Int → Int → List AV → List AV → Option α} {r : α} {G : AV → Prop} (H : sh33 e k = some r) (h : ∀ (x0 : Int) (x1 : Int) (x2 : Int) (x3 : Int) (x4 : List AV) (x5 : List AV), k x0 x1 x2 x3 x4 x5 = some r → G (.agg [.int .i64 x0, .int .i64 x1, .int .i64 x2, .int .i64 x3, .sl 2 x4 .no, .sl 1 x5 .no])) : G e := by
  unfold sh33 at H
  split at H
  · exact h _ _ _ _ _ _ H
  · exact nomatch H
theorem sh33_get {α : Type} {x : Option AV} {k : Int → Int → Int → Int → List AV → List AV → Option α} {r : α} {G : AV → Prop} (H : getA x (fun e => sh33 e k) = some r) (h : ∀ (x0 : Int) (x1 : Int) (x2 : Int) (x3 : Int) (x4 : List AV) (x5 : List AV), x = some (.agg [.int .i64 x0, .int .i64 x1, .int .i64 x2, .int .i64 x3, .sl 2 x4 .no, .sl 1 x5 .no]) → k x0 x1 x2 x3 x4 x5 = some r → G (.agg [.int .i64 x0, .int .i64 x1, .int .i64 x2, .int .i64 x3, .sl 2 x4 .no, .sl 1 x5 .no])) : ∀ e, x = some e → G e := fun e he => by
  have H2 : sh33 e k = some r := by rw [he] at H; exact H
  unfold sh33 at H2
  split at H2
  · exact h _ _ _ _ _ _ he H2
  · exact nomatch H2
theorem sh33_find {α : Type} {x : Option AV} {k : Int → Int → Int → Int → List AV → List AV → Option α} {z : Option α} {r : α} {G1 : AV → Prop} {G2 : Prop} (H : findA x (fun e => sh33 e k) z = some r) (h1 : ∀ (x0 : Int) (x1 : Int) (x2 : Int) (x3 : Int) (x4 : List AV) (x5 : List AV), k x0 x1 x2 x3 x4 x5 = some r → G1 (.agg [.int .i64 x0, .int .i64 x1, .int .i64 x2, .int .i64 x3, .sl 2 x4 .no, .sl 1 x5 .no])) (h2 : z = some r → G2) : (∀ e, x = some e → G1 e) ∧ (x = none → G2) :=
  findA_go H (fun _ He => sh33_go He h1) h2

def sh37 {α : Type} (e : AV) (k : Int → Int → Option α) : Option α := match e with | .agg [.int .i64 x0, .int .i64 x1] => k x0 x1 | _ => none
theorem sh37_go {α : Type} {e : AV} {k : Int → Int → Option α} {r : α} {G : AV → Prop} (H : sh37 e k = some r) (h : ∀ (x0 : Int) (x1 : Int), k x0 x1 = some r → G (.agg [.int .i64 x0, .int .i64 x1])) : G e := by
  unfold sh37 at H
  split at H
  · exact h _ _ H
  · exact nomatch H
theorem sh37_get {α : Type} {x : Option AV} {k : Int → Int → Option α} {r : α} {G : AV → Prop} (H : getA x (fun e => sh37 e k) = some r) (h : ∀ (x0 : Int) (x1 : Int), x = some (.agg [.int .i64 x0, .int .i64 x1]) → k x0 x1 = some r → G (.agg [.int .i64 x0, .int .i64 x1])) : ∀ e, x = some e → G e := fun e he => by
  have H2 : sh37 e k = some r := by rw [he] at H; exact H
  unfold sh37 at H2
  split at H2
  · exact h _ _ he H2
  · exact nomatch H2
theorem sh37_find {α : Type} {x : Option AV} {k : Int → Int → Option α} {z : Option α} {r : α} {G1 : AV → Prop} {G2 : Prop} (H : findA x (fun e => sh37 e k) z = some r) (h1 : ∀ (x0 : Int) (x1 : Int), k x0 x1 = some r → G1 (.agg [.int .i64 x0, .int .i64 x1])) (h2 : z = some r → G2) : (∀ e, x = some e → G1 e) ∧ (x = none → G2) :=
  findA_go H (fun _ He => sh37_go He h1) h2

def sh57 {α : Type} (e : AV) (k : Int → Int → Option α) : Option α := match e with | .agg [.int .i64 x0, .int .i64 x1] => k x0 x1 | _ => none
theorem sh57_go {α : Type} {e : AV} {k : Int → Int → Option α} {r : α} {G : AV → Prop} (H : sh57 e k = some r) (h : ∀ (x0 : Int) (x1 : Int), k x0 x1 = some r → G (.agg [.int .i64 x0, .int .i64 x1])) : G e := by
  unfold sh57 at H
  split at H
  · exact h _ _ H
  · exact nomatch H
theorem sh57_get {α : Type} {x : Option AV} {k : Int → Int → Option α} {r : α} {G : AV → Prop} (H : getA x (fun e => sh57 e k) = some r) (h : ∀ (x0 : Int) (x1 : Int), x = some (.agg [.int .i64 x0, .int .i64 x1]) → k x0 x1 = some r → G (.agg [.int .i64 x0, .int .i64 x1])) : ∀ e, x = some e → G e := fun e he => by
  have H2 : sh57 e k = some r := by rw [he] at H; exact H
  unfold sh57 at H2
  split at H2
  · exact h _ _ he H2
  · exact nomatch H2
theorem sh57_find {α : Type} {x : Option AV} {k : Int → Int → Option α} {z : Option α} {r : α} {G1 : AV → Prop} {G2 : Prop} (H : findA x (fun e => sh57 e k) z = some r) (h1 : ∀ (x0 : Int) (x1 : Int), k x0 x1 = some r → G1 (.agg [.int .i64 x0, .int .i64 x1])) (h2 : z = some r → G2) : (∀ e, x = some e → G1 e) ∧ (x = none → G2) :=
  findA_go H (fun _ He => sh57_go He h1) h2

end Go.Proofs.Ytjdbmfipciadfaa.A
