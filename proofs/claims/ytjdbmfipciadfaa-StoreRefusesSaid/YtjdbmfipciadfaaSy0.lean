/- Forms of elements. Written by lift.py. -/import Derived.Test.YtjdbmfipciadfaaAmTab
import Derived.Test.YtjdbmfipciadfaaMa4
namespace Go.Proofs.Ytjdbmfipciadfaa.A
open Go Go.Pt
set_option maxHeartbeats 4000000
set_option maxRecDepth 100000
def sh3 {α : Type} (e : AV) (k : Int → Option α) : Option α := match e with | .int .i64 x0 => k x0 | _ => none
theorem sh3_go {α : Type} {e : AV} {k : Int → Option α} {r : α} {G : AV → Prop} (H : sh3 e k = some r) (h : ∀ (x0 : Int), k x0 = some r → G (.int .i64 x0)) : G e := by
  unfold sh3 at H
  split at H
  · exact h _ H
  · exact nomatch H
theorem sh3_get {α : Type} {x : Option AV} {k : Int → Option α} {r : α} {G : AV → Prop} (H : getA x (fun e => sh3 e k) = some r) (h : ∀ (x0 : Int), x = some (.int .i64 x0) → k x0 = some r → G (.int .i64 x0)) : ∀ e, x = some e → G e := fun e he => by
  have H2 : sh3 e k = some r := by rw [he] at H; exact H
  unfold sh3 at H2
  split at H2
  · exact h _ he H2
  · exact nomatch H2
theorem sh3_find {α : Type} {x : Option AV} {k : Int → Option α} {z : Option α} {r : α} {G1 : AV → Prop} {G2 : Prop} (H : findA x (fun e => sh3 e k) z = some r) (h1 : ∀ (x0 : Int), k x0 = some r → G1 (.int .i64 x0)) (h2 : z = some r → G2) : (∀ e, x = some e → G1 e) ∧ (x = none → G2) :=
  findA_go H (fun _ He => sh3_go He h1) h2
def sh5 {α : Type} (e : AV) (k : Int → Option α) : Option α := match e with | .int .u8 x0 => k x0 | _ => none
theorem sh5_go {α : Type} {e : AV} {k : Int → Option α} {r : α} {G : AV → Prop} (H : sh5 e k = some r) (h : ∀ (x0 : Int), k x0 = some r → G (.int .u8 x0)) : G e := by
  unfold sh5 at H
  split at H
  · exact h _ H
  · exact nomatch H
theorem sh5_get {α : Type} {x : Option AV} {k : Int → Option α} {r : α} {G : AV → Prop} (H : getA x (fun e => sh5 e k) = some r) (h : ∀ (x0 : Int), x = some (.int .u8 x0) → k x0 = some r → G (.int .u8 x0)) : ∀ e, x = some e → G e := fun e he => by
  have H2 : sh5 e k = some r := by rw [he] at H; exact H
  unfold sh5 at H2
  split at H2
  · exact h _ he H2
  · exact nomatch H2
theorem sh5_find {α : Type} {x : Option AV} {k : Int → Option α} {z : Option α} {r : α} {G1 : AV → Prop} {G2 : Prop} (H : findA x (fun e => sh5 e k) z = some r) (h1 : ∀ (x0 : Int), k x0 = some r → G1 (.int .u8 x0)) (h2 : z = some r → G2) : (∀ e, x = some e → G1 e) ∧ (x = none → G2) :=
  findA_go H (fun _ He => sh5_go He h1) h2
def sh9 {α : Type} (e : AV) (k : ByteArray → Option α) : Option α := match e with | .str x0 => k x0 | _ => none
theorem sh9_go {α : Type} {e : AV} {k : ByteArray → Option α} {r : α} {G : AV → Prop} (H : sh9 e k = some r) (h : ∀ (x0 : ByteArray), k x0 = some r → G (.str x0)) : G e := by
  unfold sh9 at H
  split at H
  · exact h _ H
  · exact nomatch H
theorem sh9_get {α : Type} {x : Option AV} {k : ByteArray → Option α} {r : α} {G : AV → Prop} (H : getA x (fun e => sh9 e k) = some r) (h : ∀ (x0 : ByteArray), x = some (.str x0) → k x0 = some r → G (.str x0)) : ∀ e, x = some e → G e := fun e he => by
  have H2 : sh9 e k = some r := by rw [he] at H; exact H
  unfold sh9 at H2
  split at H2
  · exact h _ he H2
  · exact nomatch H2
theorem sh9_find {α : Type} {x : Option AV} {k : ByteArray → Option α} {z : Option α} {r : α} {G1 : AV → Prop} {G2 : Prop} (H : findA x (fun e => sh9 e k) z = some r) (h1 : ∀ (x0 : ByteArray), k x0 = some r → G1 (.str x0)) (h2 : z = some r → G2) : (∀ e, x = some e → G1 e) ∧ (x = none → G2) :=
  findA_go H (fun _ He => sh9_go He h1) h2
def sh69 {α : Type} (e : AV) (k : List AV → Option α) : Option α := match e with | .sl 1 x0 .no => k x0 | _ => none
theorem sh69_go {α : Type} {e : AV} {k : List AV → Option α} {r : α} {G : AV → Prop} (H : sh69 e k = some r) (h : ∀ (x0 : List AV), k x0 = some r → G (.sl 1 x0 .no)) : G e := by
  unfold sh69 at H
  split at H
  · exact h _ H
  · exact nomatch H
theorem sh69_get {α : Type} {x : Option AV} {k : List AV → Option α} {r : α} {G : AV → Prop} (H : getA x (fun e => sh69 e k) = some r) (h : ∀ (x0 : List AV), x = some (.sl 1 x0 .no) → k x0 = some r → G (.sl 1 x0 .no)) : ∀ e, x = some e → G e := fun e he => by
  have H2 : sh69 e k = some r := by rw [he] at H; exact H
  unfold sh69 at H2
  split at H2
  · exact h _ he H2
  · exact nomatch H2
theorem sh69_find {α : Type} {x : Option AV} {k : List AV → Option α} {z : Option α} {r : α} {G1 : AV → Prop} {G2 : Prop} (H : findA x (fun e => sh69 e k) z = some r) (h1 : ∀ (x0 : List AV), k x0 = some r → G1 (.sl 1 x0 .no)) (h2 : z = some r → G2) : (∀ e, x = some e → G1 e) ∧ (x = none → G2) :=
  findA_go H (fun _ He => sh69_go He h1) h2
def sh71 {α : Type} (e : AV) (k : Int → ByteArray → ByteArray → Int → Int → List AV → Option α) : Option α := match e with | .agg [.int .i64 x0, .str x1, .str x2, .int .i64 x3, .int .i64 x4, .sl 1 x5 .no] => k x0 x1 x2 x3 x4 x5 | _ => none
theorem sh71_go {α : Type} {e : AV} {k : Int → ByteArray → ByteArray → Int → Int → List AV → Option α} {r : α} {G : AV → Prop} (H : sh71 e k = some r) (h : ∀ (x0 : Int) (x1 : ByteArray) (x2 : ByteArray) (x3 : Int) (x4 : Int) (x5 : List AV), k x0 x1 x2 x3 x4 x5 = some r → G (.agg [.int .i64 x0, .str x1, .str x2, .int .i64 x3, .int .i64 x4, .sl 1 x5 .no])) : G e := by
  unfold sh71 at H
  split at H
  · exact h _ _ _ _ _ _ H
  · exact nomatch H
theorem sh71_get {α : Type} {x : Option AV} {k : Int → ByteArray → ByteArray → Int → Int → List AV → Option α} {r : α} {G : AV → Prop} (H : getA x (fun e => sh71 e k) = some r) (h : ∀ (x0 : Int) (x1 : ByteArray) (x2 : ByteArray) (x3 : Int) (x4 : Int) (x5 : List AV), x = some (.agg [.int .i64 x0, .str x1, .str x2, .int .i64 x3, .int .i64 x4, .sl 1 x5 .no]) → k x0 x1 x2 x3 x4 x5 = some r → G (.agg [.int .i64 x0, .str x1, .str x2, .int .i64 x3, .int .i64 x4, .sl 1 x5 .no])) : ∀ e, x = some e → G e := fun e he => by
  have H2 : sh71 e k = some r := by rw [he] at H; exact H
  unfold sh71 at H2
  split at H2
  · exact h _ _ _ _ _ _ he H2
  · exact nomatch H2
theorem sh71_find {α : Type} {x : Option AV} {k : Int → ByteArray → ByteArray → Int → Int → List AV → Option α} {z : Option α} {r : α} {G1 : AV → Prop} {G2 : Prop} (H : findA x (fun e => sh71 e k) z = some r) (h1 : ∀ (x0 : Int) (x1 : ByteArray) (x2 : ByteArray) (x3 : Int) (x4 : Int) (x5 : List AV), k x0 x1 x2 x3 x4 x5 = some r → G1 (.agg [.int .i64 x0, .str x1, .str x2, .int .i64 x3, .int .i64 x4, .sl 1 x5 .no])) (h2 : z = some r → G2) : (∀ e, x = some e → G1 e) ∧ (x = none → G2) :=
  findA_go H (fun _ He => sh71_go He h1) h2
def sh142 {α : Type} (e : AV) (k : Int → Option α) : Option α := match e with | .fp 0 x0 0 => k x0 | _ => none
theorem sh142_go {α : Type} {e : AV} {k : Int → Option α} {r : α} {G : AV → Prop} (H : sh142 e k = some r) (h : ∀ (x0 : Int), k x0 = some r → G (.fp 0 x0 0)) : G e := by
  unfold sh142 at H
  split at H
  · exact h _ H
  · exact nomatch H
theorem sh142_get {α : Type} {x : Option AV} {k : Int → Option α} {r : α} {G : AV → Prop} (H : getA x (fun e => sh142 e k) = some r) (h : ∀ (x0 : Int), x = some (.fp 0 x0 0) → k x0 = some r → G (.fp 0 x0 0)) : ∀ e, x = some e → G e := fun e he => by
  have H2 : sh142 e k = some r := by rw [he] at H; exact H
  unfold sh142 at H2
  split at H2
  · exact h _ he H2
  · exact nomatch H2
theorem sh142_find {α : Type} {x : Option AV} {k : Int → Option α} {z : Option α} {r : α} {G1 : AV → Prop} {G2 : Prop} (H : findA x (fun e => sh142 e k) z = some r) (h1 : ∀ (x0 : Int), k x0 = some r → G1 (.fp 0 x0 0)) (h2 : z = some r → G2) : (∀ e, x = some e → G1 e) ∧ (x = none → G2) :=
  findA_go H (fun _ He => sh142_go He h1) h2
def sh147 {α : Type} (e : AV) (k : List AV → Option α) : Option α := match e with | .agg [.sl 1 x0 .no] => k x0 | _ => none
theorem sh147_go {α : Type} {e : AV} {k : List AV → Option α} {r : α} {G : AV → Prop} (H : sh147 e k = some r) (h : ∀ (x0 : List AV), k x0 = some r → G (.agg [.sl 1 x0 .no])) : G e := by
  unfold sh147 at H
  split at H
  · exact h _ H
  · exact nomatch H
theorem sh147_get {α : Type} {x : Option AV} {k : List AV → Option α} {r : α} {G : AV → Prop} (H : getA x (fun e => sh147 e k) = some r) (h : ∀ (x0 : List AV), x = some (.agg [.sl 1 x0 .no]) → k x0 = some r → G (.agg [.sl 1 x0 .no])) : ∀ e, x = some e → G e := fun e he => by
  have H2 : sh147 e k = some r := by rw [he] at H; exact H
  unfold sh147 at H2
  split at H2
  · exact h _ he H2
  · exact nomatch H2
theorem sh147_find {α : Type} {x : Option AV} {k : List AV → Option α} {z : Option α} {r : α} {G1 : AV → Prop} {G2 : Prop} (H : findA x (fun e => sh147 e k) z = some r) (h1 : ∀ (x0 : List AV), k x0 = some r → G1 (.agg [.sl 1 x0 .no])) (h2 : z = some r → G2) : (∀ e, x = some e → G1 e) ∧ (x = none → G2) :=
  findA_go H (fun _ He => sh147_go He h1) h2
def sh150 {α : Type} (e : AV) (k : Int → Int → List AV → Option α) : Option α := match e with | .agg [.fp 0 x0 0, .int .i64 x1, .sl 1 x2 .no] => k x0 x1 x2 | _ => none
theorem sh150_go {α : Type} {e : AV} {k : Int → Int → List AV → Option α} {r : α} {G : AV → Prop} (H : sh150 e k = some r) (h : ∀ (x0 : Int) (x1 : Int) (x2 : List AV), k x0 x1 x2 = some r → G (.agg [.fp 0 x0 0, .int .i64 x1, .sl 1 x2 .no])) : G e := by
  unfold sh150 at H
  split at H
  · exact h _ _ _ H
  · exact nomatch H
theorem sh150_get {α : Type} {x : Option AV} {k : Int → Int → List AV → Option α} {r : α} {G : AV → Prop} (H : getA x (fun e => sh150 e k) = some r) (h : ∀ (x0 : Int) (x1 : Int) (x2 : List AV), x = some (.agg [.fp 0 x0 0, .int .i64 x1, .sl 1 x2 .no]) → k x0 x1 x2 = some r → G (.agg [.fp 0 x0 0, .int .i64 x1, .sl 1 x2 .no])) : ∀ e, x = some e → G e := fun e he => by
  have H2 : sh150 e k = some r := by rw [he] at H; exact H
  unfold sh150 at H2
  split at H2
  · exact h _ _ _ he H2
  · exact nomatch H2
theorem sh150_find {α : Type} {x : Option AV} {k : Int → Int → List AV → Option α} {z : Option α} {r : α} {G1 : AV → Prop} {G2 : Prop} (H : findA x (fun e => sh150 e k) z = some r) (h1 : ∀ (x0 : Int) (x1 : Int) (x2 : List AV), k x0 x1 x2 = some r → G1 (.agg [.fp 0 x0 0, .int .i64 x1, .sl 1 x2 .no])) (h2 : z = some r → G2) : (∀ e, x = some e → G1 e) ∧ (x = none → G2) :=
  findA_go H (fun _ He => sh150_go He h1) h2
def sh158 {α : Type} (e : AV) (k : ByteArray → Int → List AV → Option α) : Option α := match e with | .agg [.str x0, .int .i64 x1, .sl 1 x2 .no] => k x0 x1 x2 | _ => none
theorem sh158_go {α : Type} {e : AV} {k : ByteArray → Int → List AV → Option α} {r : α} {G : AV → Prop} (H : sh158 e k = some r) (h : ∀ (x0 : ByteArray) (x1 : Int) (x2 : List AV), k x0 x1 x2 = some r → G (.agg [.str x0, .int .i64 x1, .sl 1 x2 .no])) : G e := by
  unfold sh158 at H
  split at H
  · exact h _ _ _ H
  · exact nomatch H
theorem sh158_get {α : Type} {x : Option AV} {k : ByteArray → Int → List AV → Option α} {r : α} {G : AV → Prop} (H : getA x (fun e => sh158 e k) = some r) (h : ∀ (x0 : ByteArray) (x1 : Int) (x2 : List AV), x = some (.agg [.str x0, .int .i64 x1, .sl 1 x2 .no]) → k x0 x1 x2 = some r → G (.agg [.str x0, .int .i64 x1, .sl 1 x2 .no])) : ∀ e, x = some e → G e := fun e he => by
  have H2 : sh158 e k = some r := by rw [he] at H; exact H
  unfold sh158 at H2
  split at H2
  · exact h _ _ _ he H2
  · exact nomatch H2
theorem sh158_find {α : Type} {x : Option AV} {k : ByteArray → Int → List AV → Option α} {z : Option α} {r : α} {G1 : AV → Prop} {G2 : Prop} (H : findA x (fun e => sh158 e k) z = some r) (h1 : ∀ (x0 : ByteArray) (x1 : Int) (x2 : List AV), k x0 x1 x2 = some r → G1 (.agg [.str x0, .int .i64 x1, .sl 1 x2 .no])) (h2 : z = some r → G2) : (∀ e, x = some e → G1 e) ∧ (x = none → G2) :=
  findA_go H (fun _ He => sh158_go He h1) h2
def sh164 {α : Type} (e : AV) (k : ByteArray → List AV → Option α) : Option α := match e with | .agg [.str x0, .sl 1 x1 .no] => k x0 x1 | _ => none
theorem sh164_go {α : Type} {e : AV} {k : ByteArray → List AV → Option α} {r : α} {G : AV → Prop} (H : sh164 e k = some r) (h : ∀ (x0 : ByteArray) (x1 : List AV), k x0 x1 = some r → G (.agg [.str x0, .sl 1 x1 .no])) : G e := by
  unfold sh164 at H
  split at H
  · exact h _ _ H
  · exact nomatch H
theorem sh164_get {α : Type} {x : Option AV} {k : ByteArray → List AV → Option α} {r : α} {G : AV → Prop} (H : getA x (fun e => sh164 e k) = some r) (h : ∀ (x0 : ByteArray) (x1 : List AV), x = some (.agg [.str x0, .sl 1 x1 .no]) → k x0 x1 = some r → G (.agg [.str x0, .sl 1 x1 .no])) : ∀ e, x = some e → G e := fun e he => by
  have H2 : sh164 e k = some r := by rw [he] at H; exact H
  unfold sh164 at H2
  split at H2
  · exact h _ _ he H2
  · exact nomatch H2
theorem sh164_find {α : Type} {x : Option AV} {k : ByteArray → List AV → Option α} {z : Option α} {r : α} {G1 : AV → Prop} {G2 : Prop} (H : findA x (fun e => sh164 e k) z = some r) (h1 : ∀ (x0 : ByteArray) (x1 : List AV), k x0 x1 = some r → G1 (.agg [.str x0, .sl 1 x1 .no])) (h2 : z = some r → G2) : (∀ e, x = some e → G1 e) ∧ (x = none → G2) :=
  findA_go H (fun _ He => sh164_go He h1) h2
end Go.Proofs.Ytjdbmfipciadfaa.A
