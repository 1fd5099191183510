/- Appends to a slice of Loan. -/
import Derived.Test.YtgfpnadjkemafaaStLoan
namespace Go.Proofs.Ytgfpnadjkemafaa
open Go.ChangeShapes Go.WideShapes Go.ChangeAt Go.RowKit Go.Joins Go.Deep
set_option linter.unusedSimpArgs false
set_option linter.unusedVariables false

theorem RdLoan.alloc {w : World} {v : Value} {zs : List (Int × Int)} (h : RdLoan w v zs) (o : Obj) : RdLoan (w.alloc o) v zs := h.below (below_alloc1 w o)
theorem RdLoan.drew {w : World} {v : Value} {zs : List (Int × Int)} (h : RdLoan w v zs) : RdLoan w.drew v zs := h
theorem OwLoan.drew {w : World} {B : Nat} {v : Value} {zs : List (Int × Int)} (h : OwLoan w B v zs) : OwLoan w.drew B v zs := h
theorem OwLoan.empty_at (w : World) (B : Nat) {g : Nat} (hg : g = w.heap.size) (hB : B ≤ w.heap.size) : OwLoan (w.alloc (.cells #[] 46)) B (.slice (some ⟨g, 0, none⟩) 0 0) [] := by subst hg; exact OwLoan.empty w B hB
theorem rdLoan_one (w : World) (x0 x1 : Int) : RdLoan (w.alloc (.cells #[.int .i64 x0, .int .i64 x1] 46)) (.slice (some ⟨w.heap.size, 0, none⟩) 1 1) [(x0, x1)] := rd_alloc w #[.int .i64 x0, .int .i64 x1] 46 1 (by decide)
theorem rdLoan_at (w : World) (x0 x1 : Int) {g : Nat} (hg : g = w.heap.size) : RdLoan (w.alloc (.cells #[.int .i64 x0, .int .i64 x1] 46)) (.slice (some ⟨g, 0, none⟩) 1 1) [(x0, x1)] := by subst hg; exact rdLoan_one w x0 x1
theorem RdLoan.kept {w w' : World} {u v : Value} {ys : List (Int × Int)} (h : RdLoan w u ys) (hg : w.grownBy w' v.ownBlock) (hu : Dis u v) : RdLoan w' u ys := by
  obtain ⟨a, cap, b, off, rfl, h1, h2, h3, h4⟩ := h
  refine ⟨a, cap, b, off, rfl, h1, h2, h3, fun j c hj => ?_⟩
  have hp : 0 < (flLoan ys).length := by
    rcases Nat.eq_zero_or_pos (flLoan ys).length with h0 | h0
    · rw [List.eq_nil_of_length_eq_zero h0] at hj; simp at hj
    · exact h0
  obtain rfl := h3 hp
  refine hg.cell (h4 j c hj) (fun e => ?_)
  rcases hu with hu | hu
  · simp [Value.ownBlock] at hu
  · exact hu (by simpa [Value.ownBlock] using e)
/-- append(out, ys...). -/
theorem wpList_appLoan {ops : Array Oper} {rest : List Oper} {o : Oper} {a : Act} {Q : Exit → Act → World → Prop} (hgd : o.guard = none) (s x : Operand)
    (ho : o.op = .call { callee := .builtin .append, args := #[s, x], argTypes := #[25, 25] }) (w : World)
    (B : Nat) (v : Value) (zs : List (Int × Int)) (hs : a.eval s = v) (hown : OwLoan w B v zs) (u : Value) (ys : List (Int × Int)) (hx : a.eval x = u) (hr : RdLoan w u ys)
    (hsmall : zs.length + ys.length ≤ 1099511627776) (hbase : B ≤ w.heap.size)
    (h : ∀ v' w', OwLoan w' B v' (zs ++ ys) → w.grownBy w' v.ownBlock → (v'.ownBlock = v.ownBlock ∨ ∃ k, v'.ownBlock = some k ∧ w.heap.size ≤ k) → wpList Try.prog ops Q rest (a.put o.dst v') w') :
    wpList Try.prog ops Q (o :: rest) a w := by
  refine wpList_app hgd s x _ ho _ B 46 (.agg #[.int .i64 0, .int .i64 0]) 2 16 underLoans infoLoan rfl (by decide) v zs.length (flLoan zs) hs hown u ys.length (flLoan ys) hx hr (flLoan_length ys) (flLoan_one ys) hsmall (by decide) hbase fun v' w' h2 h3 h4 => ?_
  refine h v' w' ?_ h3 ?_
  · unfold OwLoan
    rw [List.length_append, flLoan_append]
    exact h2
  · rcases h4 with h4 | h4
    · exact .inl h4
    · exact .inr ⟨_, h4, Nat.le_refl _⟩
theorem step_appLoan {ops : Array Oper} {o : Oper} {a : Act} {K : Act → World → Prop} {Q : Exit → Act → World → Prop} {E : Prop} (hgd : o.guard = none) (s x : Operand)
    (ho : o.op = .call { callee := .builtin .append, args := #[s, x], argTypes := #[25, 25] }) (w : World)
    (B : Nat) (v : Value) (zs : List (Int × Int)) (hs : a.eval s = v) (hown : OwLoan w B v zs) (u : Value) (ys : List (Int × Int)) (hx : a.eval x = u) (hr : RdLoan w u ys)
    (hsmall : zs.length + ys.length ≤ 1099511627776) (hbase : B ≤ w.heap.size)
    (h : ∀ v' w', OwLoan w' B v' (zs ++ ys) → w.grownBy w' v.ownBlock → (v'.ownBlock = v.ownBlock ∨ ∃ k, v'.ownBlock = some k ∧ w.heap.size ≤ k) → K (a.put o.dst v') w') :
    if Region.wanted o (yielded ops a.tmps) = true then Oper.wp Try.prog o a w K Q else E := by
  have hw : Region.wanted o (yielded ops a.tmps) = true := by simp [Region.wanted, hgd]
  rw [if_pos hw]
  obtain ⟨v', w', hrun, h2, h3, h4⟩ := run_app (P := Try.prog) w B 25 o.type 46 (.agg #[.int .i64 0, .int .i64 0]) 2 16 underLoans infoLoan rfl (by decide) v zs.length (flLoan zs) hown u ys.length (flLoan ys) hr (flLoan_length ys) (flLoan_one ys) hsmall (by decide) hbase
  unfold Oper.wp execOp
  simp only [ho, resolve, invoke, builtin, Sem.run_bind, Sem.run_pure, Result.andThen_ok, List.map_toArray, List.map_cons, List.map_nil, hs, hx, hrun]
  refine h v' w' ?_ h3 ?_
  · unfold OwLoan
    rw [List.length_append, flLoan_append]
    exact h2
  · rcases h4 with h4 | h4
    · exact .inl h4
    · exact .inr ⟨_, h4, Nat.le_refl _⟩
end Go.Proofs.Ytgfpnadjkemafaa
