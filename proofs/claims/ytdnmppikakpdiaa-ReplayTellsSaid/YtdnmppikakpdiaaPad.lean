/- An activation with further slots behind its own: what the model does is the same. -/
import Derived.Test.YtdnmppikakpdiaaAn
import Derived.Orders
set_option linter.unusedVariables false
namespace Go.Am
open Go.RowKit
def padA (a : Go.Act) (γ : Array Value) : Go.Act := { a with tmps := a.tmps ++ Array.replicate (GB - a.tmps.size) undef ++ γ }
def unpadA (n : Nat) (b : Go.Act) : Go.Act := { b with tmps := b.tmps.extract 0 n }
theorem unpad_pad (a : Go.Act) (γ : Array Value) : unpadA a.tmps.size (padA a γ) = a := by
  unfold unpadA padA
  cases a
  simp [Array.append_assoc]
theorem pad_put (a : Go.Act) (γ : Array Value) (d : Option Nat) (u : Value) (hd : ∀ i, d = some i → i < a.tmps.size) : (padA a γ).put d u = padA (a.put d u) γ := by
  cases d with
  | none => rfl
  | some i =>
    have := hd i rfl
    unfold padA Go.Act.put
    simp [Array.setIfInBounds_append_left, this, Array.append_assoc]
theorem pad_getD_lt (a : Go.Act) (γ : Array Value) (i : Nat) (hs : a.tmps.size ≤ GB) (h : i < GB) : (padA a γ).tmps.getD i undef = a.tmps.getD i undef := by
  unfold padA
  simp only [Array.getD_eq_getD_getElem?]
  rw [Array.getElem?_append_left (by simp; omega)]
  by_cases hi : i < a.tmps.size
  · rw [Array.getElem?_append_left hi]
  · rw [Array.getElem?_append_right (by omega)]
    rw [Array.getElem?_eq_none (xs := a.tmps) (by omega)]
    simp only [Array.getElem?_replicate]
    split <;> rfl
theorem pad_getD_ge (a : Go.Act) (γ : Array Value) (i : Nat) (hs : a.tmps.size ≤ GB) : (padA a γ).tmps.getD (GB + i) undef = γ.getD i undef := by
  unfold padA
  simp only [Array.getD_eq_getD_getElem?]
  rw [Array.getElem?_append_right (by simp; omega)]
  congr 2
  simp; omega
def opsLt (o : Oper) : Bool := o.op.operands.all fun | .tmp n => decide (n < GB) | _ => true
def noSelect (o : Oper) : Bool := match o.op with | .select _ _ => false | _ => true
theorem eval_pad {o : Oper} {a : Go.Act} {γ : Array Value} (hs : a.tmps.size ≤ GB) (ho : opsLt o = true) (hn : noSelect o = true) : execOp (padA a γ).eval o = execOp a.eval o := by
  refine execOp_congr o (fun cs b h => by simp [noSelect, h] at hn) fun x hx => ?_
  cases x with
  | tmp n =>
    have : n < GB := by
      unfold opsLt at ho
      rw [Array.all_eq_true'] at ho
      simpa using ho _ hx
    exact pad_getD_lt a γ n hs this
  | _ => rfl
theorem does_pad {P : Program} {o : Oper} {a : Go.Act} {γ : Array Value} {w : World} {R : Value → World → Prop} (hs : a.tmps.size ≤ GB) (ho : opsLt o = true) (hn : noSelect o = true) (hd : ∀ i, o.dst = some i → i < a.tmps.size) (h : Does P o (padA a γ) w R) : Does P o a w R := by
  intro next Q hnext
  have hput : ∀ u, unpadA a.tmps.size ((padA a γ).put o.dst u) = a.put o.dst u := fun u => by
    rw [pad_put a γ o.dst u hd]
    have : a.tmps.size = (a.put o.dst u).tmps.size := by cases o.dst <;> simp [Go.Act.put]
    rw [this, unpad_pad]
  have := h (fun b w' => next (unpadA a.tmps.size b) w') (fun e b w' => Q e (unpadA a.tmps.size b) w') (fun u w' hu => by rw [hput]; exact hnext u w' hu)
  unfold Oper.wp at this ⊢
  rw [eval_pad hs ho hn] at this
  generalize (execOp a.eval o).run P w = r at *
  have hun : ∀ b : Go.Act, (padA b γ).defers = b.defers := fun _ => rfl
  cases r with
  | ok nx w' =>
    cases nx with
    | value v => simp only [Oper.upon] at this ⊢; rwa [hput] at this
    | skip => simp only [Oper.upon] at this ⊢; rwa [hput] at this
    | defer d =>
      simp only [Oper.upon] at this ⊢
      have e : ({ padA a γ with defers := d :: (padA a γ).defers } : Go.Act) = padA { a with defers := d :: a.defers } γ := rfl
      rw [e, pad_put { a with defers := d :: a.defers } γ o.dst undef hd] at this
      have e2 : a.tmps.size = (({ a with defers := d :: a.defers } : Go.Act).put o.dst undef).tmps.size := by cases o.dst <;> simp [Go.Act.put]
      rwa [e2, unpad_pad] at this
    | enter f args =>
      simp only [Oper.upon] at this ⊢
      refine this.mono fun e w'' he => ?_
      cases e with
      | returned v => simp only at he ⊢; rwa [hput] at he
      | panicked ch => simp only at he ⊢; rwa [unpad_pad] at he
      | outgrown =>
        simp only at he ⊢
        obtain ⟨b, w3, h3⟩ := he
        exact ⟨_, w3, h3⟩
    | row rw_ args =>
      simp only [Oper.upon] at this ⊢
      refine this.mono fun v w'' he => ?_
      rwa [hput] at he
    | _ => simp only [Oper.upon] at this
  | halt x w' =>
    cases x <;> simp only [Oper.upon] at this ⊢ <;> first | (exact this.elim) | (rwa [unpad_pad] at this)
end Go.Am
