/- Steps of a region that draws its order, whose head only reads: an operation that the guard lets through, one that it skips. -/
import Derived.Test.YtkkcglncjdoacaaDoorBase
import Derived.StillTailTactics
namespace Go.Proofs.YtkkcglncjdoacaaDoor
open Go.ChangeShapes Go.WideShapes Go.ChangeAt Go.RowKit Go.Joins
set_option maxRecDepth 20000

theorem still_at {P : Program} {ops : Array Oper} {w : World} {Q : Act → Prop} {a : Act} {o : Oper} {rest : List Oper} (hw : Region.wanted o (yielded ops a.tmps) = true)
    (h : ∀ K : Act → Prop, (∀ a, wpStill P ops w Q rest a → K a) → o.still P a w K) : wpStill P ops w Q (o :: rest) a := by
  refine wpStill_step fun K hK => ?_
  rw [if_pos hw]
  exact h K hK
theorem still_skip {P : Program} {ops : Array Oper} {w : World} {Q : Act → Prop} {a : Act} {o : Oper} {rest : List Oper} (hw : Region.wanted o (yielded ops a.tmps) = false)
    (h : wpStill P ops w Q rest (a.put o.dst undef)) : wpStill P ops w Q (o :: rest) a := by
  refine wpStill_step fun K hK => ?_
  rw [if_neg (by rw [hw]; exact Bool.false_ne_true)]
  exact hK _ h
theorem ite_skip {c : Bool} {A B : Prop} (h : c = false) (hb : B) : (if c then A else B) := by
  subst h
  exact hb
theorem ite_take {c : Bool} {A B : Prop} (h : c = true) (hb : A) : (if c then A else B) := by
  subst h
  exact hb
end Go.Proofs.YtkkcglncjdoacaaDoor
