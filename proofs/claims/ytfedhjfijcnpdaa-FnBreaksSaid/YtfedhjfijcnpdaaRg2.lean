/- The steps of an explicit walk through a drawn region, each side fact by itself (all under with_reducible). -/
import Derived.Test.YtfedhjfijcnpdaaRg
namespace Go.Proofs.Ytfedhjfijcnpdaa
open Go.ChangeShapes Go.WideShapes Go.ChangeAt Go.RowKit Go.Joins

theorem takeI2 {P : Program} {ops : Array Oper} {Q : Exit → Act → World → Prop} {md : Region.Mode} {S : World → Prop} {i : Nat} {oi : Oper} {v : Value} {fuel : Nat} {listed : Array Bool} {a : Act} {w : World}
    (hi : ops[i]? = some oi) (h1 : Region.noSelect ops = true) (h2 : Region.free md ops listed i = true) (h3 : (Region.ready md ops listed).contains i = true) (h4 : ∀ c a w, Q (.panic c) (a.put oi.dst v) w → Q (.panic c) a w) (h5 : YieldsIf P ops S oi v a) (h6 : S w)
      (h7 : wpAnyH P md ops Q S fuel (listed.setIfInBounds i true) (a.put oi.dst v) w) : wpAnyH P md ops Q S (fuel + 1) listed a w :=
  takeI hi ⟨h1, h2, h3, h4, h5, h6, h7⟩
theorem region_beg {P : Program} {ops : Array Oper} {Q : Exit → Act → World → Prop} {S : World → Prop} {n : Nat} {id : Nat} {a : Act} {w : World} (hm : P.follows .mixedOrders = true) (hn : ops.size = n) (hS : S w.drew)
    (h : S w.drew → wpAnyH P .any ops Q S n (Array.replicate n false) a w.drew) : (Code.region id ops true).wp P Q a w := by
  subst hn
  exact wp_region_held_drew hm hS h
theorem one_ne {i : Nat} : [i] ≠ [] := List.cons_ne_nil _ _
end Go.Proofs.Ytfedhjfijcnpdaa
