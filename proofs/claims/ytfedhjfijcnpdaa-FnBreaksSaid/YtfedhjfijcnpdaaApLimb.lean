/- Appends to a slice of Limb. -/
import Derived.Test.YtfedhjfijcnpdaaStLimb
namespace Go.Proofs.Ytfedhjfijcnpdaa
open Go.ChangeShapes Go.WideShapes Go.ChangeAt Go.RowKit Go.Joins Go.Deep
set_option linter.unusedSimpArgs false
set_option linter.unusedVariables false

theorem RdLimb.alloc {w : World} {v : Value} {zs : List (Int × Int × Int)} (h : RdLimb w v zs) (o : Obj) : RdLimb (w.alloc o) v zs := h.below (below_alloc1 w o)
theorem RdLimb.drew {w : World} {v : Value} {zs : List (Int × Int × Int)} (h : RdLimb w v zs) : RdLimb w.drew v zs := h
theorem OwLimb.drew {w : World} {B : Nat} {v : Value} {zs : List (Int × Int × Int)} (h : OwLimb w B v zs) : OwLimb w.drew B v zs := h
theorem OwLimb.empty_at (w : World) (B : Nat) {g : Nat} (hg : g = w.heap.size) (hB : B ≤ w.heap.size) : OwLimb (w.alloc (.cells #[] 80)) B (.slice (some ⟨g, 0, none⟩) 0 0) [] := by subst hg; exact OwLimb.empty w B hB
theorem rdLimb_one (w : World) (x0 x1 x2 : Int) : RdLimb (w.alloc (.cells #[.int .i64 x0, .int .i64 x1, .int .i64 x2] 80)) (.slice (some ⟨w.heap.size, 0, none⟩) 1 1) [(x0, x1, x2)] := rd_alloc w #[.int .i64 x0, .int .i64 x1, .int .i64 x2] 80 1 (by decide)
theorem rdLimb_at (w : World) (x0 x1 x2 : Int) {g : Nat} (hg : g = w.heap.size) : RdLimb (w.alloc (.cells #[.int .i64 x0, .int .i64 x1, .int .i64 x2] 80)) (.slice (some ⟨g, 0, none⟩) 1 1) [(x0, x1, x2)] := by subst hg; exact rdLimb_one w x0 x1 x2
theorem RdLimb.kept {w w' : World} {u v : Value} {ys : List (Int × Int × Int)} (h : RdLimb w u ys) (hg : w.grownBy w' v.ownBlock) (hu : Dis u v) : RdLimb w' u ys := by
  obtain ⟨a, cap, b, off, rfl, h1, h2, h3, h4⟩ := h
  refine ⟨a, cap, b, off, rfl, h1, h2, h3, fun j c hj => ?_⟩
  have hp : 0 < (flLimb ys).length := by
    rcases Nat.eq_zero_or_pos (flLimb ys).length with h0 | h0
    · rw [List.eq_nil_of_length_eq_zero h0] at hj; simp at hj
    · exact h0
  obtain rfl := h3 hp
  refine hg.cell (h4 j c hj) (fun e => ?_)
  rcases hu with hu | hu
  · simp [Value.ownBlock] at hu
  · exact hu (by simpa [Value.ownBlock] using e)
/-- append(out, ys...). -/
theorem wpList_appLimb {ops : Array Oper} {rest : List Oper} {o : Oper} {a : Act} {Q : Exit → Act → World → Prop} (hgd : o.guard = none) (s x : Operand)
    (ho : o.op = .call { callee := .builtin .append, args := #[s, x], argTypes := #[24, 24] }) (w : World)
    (B : Nat) (v : Value) (zs : List (Int × Int × Int)) (hs : a.eval s = v) (hown : OwLimb w B v zs) (u : Value) (ys : List (Int × Int × Int)) (hx : a.eval x = u) (hr : RdLimb w u ys)
    (hsmall : zs.length + ys.length ≤ 1099511627776) (hbase : B ≤ w.heap.size)
    (h : ∀ v' w', OwLimb w' B v' (zs ++ ys) → w.grownBy w' v.ownBlock → (v'.ownBlock = v.ownBlock ∨ ∃ k, v'.ownBlock = some k ∧ w.heap.size ≤ k) → wpList Try.prog ops Q rest (a.put o.dst v') w') :
    wpList Try.prog ops Q (o :: rest) a w := by
  refine wpList_app hgd s x _ ho _ B 80 (.agg #[.int .i64 0, .int .i64 0, .int .i64 0]) 3 24 underLimbs infoLimb rfl (by decide) v zs.length (flLimb zs) hs hown u ys.length (flLimb ys) hx hr (flLimb_length ys) (flLimb_one ys) hsmall (by decide) hbase fun v' w' h2 h3 h4 => ?_
  refine h v' w' ?_ h3 ?_
  · unfold OwLimb
    rw [List.length_append, flLimb_append]
    exact h2
  · rcases h4 with h4 | h4
    · exact .inl h4
    · exact .inr ⟨_, h4, Nat.le_refl _⟩
theorem step_appLimb {ops : Array Oper} {o : Oper} {a : Act} {K : Act → World → Prop} {Q : Exit → Act → World → Prop} {E : Prop} (hgd : o.guard = none) (s x : Operand)
    (ho : o.op = .call { callee := .builtin .append, args := #[s, x], argTypes := #[24, 24] }) (w : World)
    (B : Nat) (v : Value) (zs : List (Int × Int × Int)) (hs : a.eval s = v) (hown : OwLimb w B v zs) (u : Value) (ys : List (Int × Int × Int)) (hx : a.eval x = u) (hr : RdLimb w u ys)
    (hsmall : zs.length + ys.length ≤ 1099511627776) (hbase : B ≤ w.heap.size)
    (h : ∀ v' w', OwLimb w' B v' (zs ++ ys) → w.grownBy w' v.ownBlock → (v'.ownBlock = v.ownBlock ∨ ∃ k, v'.ownBlock = some k ∧ w.heap.size ≤ k) → K (a.put o.dst v') w') :
    if Region.wanted o (yielded ops a.tmps) = true then Oper.wp Try.prog o a w K Q else E := by
  have hw : Region.wanted o (yielded ops a.tmps) = true := by simp [Region.wanted, hgd]
  rw [if_pos hw]
  obtain ⟨v', w', hrun, h2, h3, h4⟩ := run_app (P := Try.prog) w B 24 o.type 80 (.agg #[.int .i64 0, .int .i64 0, .int .i64 0]) 3 24 underLimbs infoLimb rfl (by decide) v zs.length (flLimb zs) hown u ys.length (flLimb ys) hr (flLimb_length ys) (flLimb_one ys) hsmall (by decide) hbase
  unfold Oper.wp execOp
  simp only [ho, resolve, invoke, builtin, Sem.run_bind, Sem.run_pure, Result.andThen_ok, List.map_toArray, List.map_cons, List.map_nil, hs, hx, hrun]
  refine h v' w' ?_ h3 ?_
  · unfold OwLimb
    rw [List.length_append, flLimb_append]
    exact h2
  · rcases h4 with h4 | h4
    · exact .inl h4
    · exact .inr ⟨_, h4, Nat.le_refl _⟩
/-- The first k elements, of the call's own: out[:k]. -/
theorem OwLimb.pre {w : World} {B g n cap k : Nat} {zs : List (Int × Int × Int)} (h : OwLimb w B (.slice (some ⟨g, 0, none⟩) n cap) zs) (hk : k ≤ zs.length) : OwLimb w B (.slice (some ⟨g, 0, none⟩) k cap) (zs.take k) := by
  have hl : (zs.take k).length = k := by rw [List.length_take]; omega
  have hfl : (flLimb zs).take (k * 3) = flLimb (zs.take k) := by
    have h1 : flLimb zs = flLimb (zs.take k) ++ flLimb (zs.drop k) := by rw [← flLimb_append, List.take_append_drop]
    rw [h1, List.take_append_of_le_length (by rw [flLimb_length, hl]; exact Nat.le_refl _), List.take_of_length_le (by rw [flLimb_length, hl]; exact Nat.le_refl _)]
  obtain ⟨h1, h2⟩ := h
  refine ⟨by rw [flLimb_length], .inr ?_⟩
  rcases h2 with ⟨h2, _⟩ | ⟨g', cap', cur, h2, h3, h4, h5, h6, h7, h8⟩
  · simp at h2
  · simp only [Value.slice.injEq, Option.some.injEq, Addr.mk.injEq] at h2
    obtain ⟨⟨rfl, _⟩, rfl, rfl⟩ := h2
    refine ⟨g, cap, cur, by rw [hl], h3, h4, by rw [hl]; omega, h6, h7, ?_⟩
    rw [hl, ← hfl, ← h8, List.take_take]
    congr 1
    have := Nat.mul_le_mul_right 3 hk
    omega
/-- The elements from k on, as a part: out[k:]. -/
theorem RdLimb.from {w : World} {zs : List (Int × Int × Int)} {bl off cap k : Nat} (h : RdLimb w (.slice (some ⟨bl, off, none⟩) zs.length cap) zs) (hk : k ≤ zs.length) :
    RdLimb w (.slice (if cap = k then some ⟨bl, off, none⟩ else some ⟨bl, off + k * 3, none⟩) (zs.length - k) (cap - k)) (zs.drop k) := by
  obtain ⟨a, cap', b', off', hv, h1, h2, h3, h4⟩ := h
  simp only [Value.slice.injEq] at hv
  obtain ⟨rfl, _, rfl⟩ := hv
  have hsplit : flLimb zs = flLimb (zs.take k) ++ flLimb (zs.drop k) := by rw [← flLimb_append, List.take_append_drop]
  have hlt : (flLimb (zs.take k)).length = k * 3 := by rw [flLimb_length, List.length_take]; congr 1; omega
  refine ⟨_, cap - k, bl, off + k * 3, by rw [List.length_drop], by rw [List.length_drop]; omega, by omega, fun hp => ?_, fun j u hj => ?_⟩
  · rw [flLimb_length, List.length_drop] at hp
    rw [if_neg (by omega)]
  · have hpos : 0 < (flLimb zs).length := by
      rw [hsplit, List.length_append]
      have := (List.getElem?_eq_some_iff.1 hj).1
      omega
    have he := h3 hpos
    simp only [Option.some.injEq, Addr.mk.injEq] at he
    obtain ⟨rfl, rfl, _⟩ := he
    rw [Nat.add_assoc]
    refine h4 (k * 3 + j) u ?_
    rw [hsplit, List.getElem?_append_right (by omega), hlt, Nat.add_sub_cancel_left]
    exact hj
end Go.Proofs.Ytfedhjfijcnpdaa
