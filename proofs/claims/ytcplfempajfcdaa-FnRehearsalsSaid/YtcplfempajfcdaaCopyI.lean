/- copy(out[k+1:], out[k:]) within a slice of whole numbers of the call's own. -/
import Derived.Test.YtcplfempajfcdaaApp
import Derived.Laws.CopyOwn
namespace Go.Proofs.Ytcplfempajfcdaa
open Go.ChangeShapes Go.WideShapes Go.ChangeAt Go.RowKit Go.Joins
set_option linter.unusedSimpArgs false
set_option linter.unusedVariables false

theorem infoInt1 : (Try.prog.info? 3).map (·.size) = some 1 := by kernel_rfl
theorem grown_setRow (w : World) (g : Nat) (cs : Array Value) : w.grownBy (w.setRow g cs) (some g) :=
  ⟨rfl, rfl, rfl, by simp [World.setRow], fun k hk hne => setRow_other w g k cs (by simpa using hne)⟩
theorem run_shift (w : World) (B g cap k : Nat) (zs : List Int) (ty : TypeId) (hown : OwI w B (.slice (some ⟨g, 0, none⟩) zs.length cap) zs) (hk : k < zs.length) :
    ∃ (w' : World) (m : Nat), (Builtin.copy_ #[34, 34] ty #[.slice (if cap = k + 1 then some ⟨g, 0, none⟩ else some ⟨g, k + 1, none⟩) (zs.length - (k + 1)) (cap - (k + 1)), .slice (if cap = k then some ⟨g, 0, none⟩ else some ⟨g, k, none⟩) (zs.length - k) (cap - k)]).run Try.prog w = .ok (goInt m) w' ∧
      OwI w' B (.slice (some ⟨g, 0, none⟩) zs.length cap) (zs.take (k + 1) ++ (zs.drop k).take (zs.length - (k + 1))) ∧ w.grownBy w' (some g) := by
  by_cases h0 : zs.length - (k + 1) = 0
  · refine ⟨w, 0, ?_, ?_, World.grownBy.refl _ _⟩
    · exact run_copy_none (P := Try.prog) w 34 34 ty 3 _ _ _ _ _ _ underInts infoInt1 (by rw [h0]; exact Nat.min_zero _)
    · have e : zs.take (k + 1) ++ (zs.drop k).take (zs.length - (k + 1)) = zs := by rw [h0, List.take_zero, List.append_nil, List.take_of_length_le (by omega)]
      rw [e]
      exact hown
  · obtain ⟨h1, h2⟩ := hown
    rcases h2 with ⟨h2, _⟩ | ⟨g', cap', cur, h2, hB, hh, hn, hm, hs, ht⟩
    · simp at h2
    · simp only [Value.slice.injEq, Option.some.injEq, Addr.mk.injEq] at h2
      obtain ⟨⟨rfl, _⟩, _, rfl⟩ := h2
      rw [Nat.mul_one] at hs ht h1
      have hck : cap ≠ k := by omega
      have hck1 : cap ≠ k + 1 := by omega
      rw [if_neg hck, if_neg hck1]
      have hcl : (((ints zs).drop k).take (zs.length - (k + 1))).length = zs.length - (k + 1) := by rw [List.length_take, List.length_drop, ints_length]; omega
      have hcur : ∀ j, j < zs.length → cur.toList[j]? = (ints zs)[j]? := fun j hj => by rw [← ht, List.getElem?_take, if_pos hj]
      have hsz : cur.toList.length = cap := by rw [Array.length_toList]; exact hs
      have hrun := run_copy_row (P := Try.prog) w 34 34 ty 3 g (k + 1) (zs.length - (k + 1)) (cap - (k + 1)) ⟨g, k, none⟩ (zs.length - k) (cap - k) cur 3 (((ints zs).drop k).take (zs.length - (k + 1))) underInts infoInt1 hh
        (by rw [hcl]; exact (Nat.min_eq_right (by omega)).symm)
        (fun j v hj => by
          rw [List.getElem?_take] at hj
          split at hj
          · rename_i hjl
            rw [List.getElem?_drop] at hj
            rw [Addr.add_lit, cell_of_row w g (k + j) cur 3 (0, 0) hh, ← Array.getElem?_toList, hcur (k + j) (by omega)]
            exact hj
          · cases hj)
        (by rw [hcl]; omega)
        (fun v hv => ints_one zs v (List.mem_of_mem_drop (List.mem_of_mem_take hv)))
      refine ⟨_, _, hrun, ?_, grown_setRow _ _ _⟩
      have hlen : (zs.take (k + 1) ++ (zs.drop k).take (zs.length - (k + 1))).length = zs.length := by
        rw [List.length_append, List.length_take, List.length_take, List.length_drop]; omega
      unfold OwI
      rw [hlen]
      refine ⟨by rw [ints_length, hlen, Nat.mul_one], .inr ⟨g, cap, _, rfl, hB, setRow_heap w g cur _ _ _ hh, hn, hm, ?_, ?_⟩⟩
      · simp only [List.size_toArray, List.length_append, List.length_take, List.length_drop, ints_length, hsz]
        omega
      · have e1 : ints (zs.take (k + 1) ++ (zs.drop k).take (zs.length - (k + 1))) = (ints zs).take (k + 1) ++ ((ints zs).drop k).take (zs.length - (k + 1)) := by
          simp only [ints, List.map_append, List.map_take, List.map_drop]
        have e2 : (ints zs).take (k + 1) = cur.toList.take (k + 1) := by rw [← ht, List.take_take, Nat.min_eq_left (by omega)]
        have hl2 : (cur.toList.take (k + 1) ++ ((ints zs).drop k).take (zs.length - (k + 1))).length = zs.length := by rw [List.length_append, hcl, List.length_take, hsz]; omega
        rw [e1, e2, Nat.mul_one, List.take_append_of_le_length (by rw [hl2]; exact Nat.le_refl _), List.take_of_length_le (by rw [hl2]; exact Nat.le_refl _)]
/-- .. as one step of a region that draws. -/
theorem step_shift {ops : Array Oper} {o : Oper} {a : Act} {K : Act → World → Prop} {Q : Exit → Act → World → Prop} {E : Prop} (hgd : o.guard = none) (d s : Operand)
    (ho : o.op = .call { callee := .builtin .copy, args := #[d, s], argTypes := #[34, 34] }) (w : World)
    (B g cap k : Nat) (zs : List Int) (hown : OwI w B (.slice (some ⟨g, 0, none⟩) zs.length cap) zs) (hk : k < zs.length)
    (hd : a.eval d = .slice (if cap = k + 1 then some ⟨g, 0, none⟩ else some ⟨g, k + 1, none⟩) (zs.length - (k + 1)) (cap - (k + 1)))
    (hs : a.eval s = .slice (if cap = k then some ⟨g, 0, none⟩ else some ⟨g, k, none⟩) (zs.length - k) (cap - k))
    (h : ∀ w' v, OwI w' B (.slice (some ⟨g, 0, none⟩) zs.length cap) (zs.take (k + 1) ++ (zs.drop k).take (zs.length - (k + 1))) → w.grownBy w' (some g) → K (a.put o.dst v) w') :
    if Region.wanted o (yielded ops a.tmps) = true then Oper.wp Try.prog o a w K Q else E := by
  have hw : Region.wanted o (yielded ops a.tmps) = true := by simp [Region.wanted, hgd]
  rw [if_pos hw]
  obtain ⟨w', m, hrun, h1, h2⟩ := run_shift w B g cap k zs o.type hown hk
  unfold Oper.wp
  simp only [execOp, ho, resolve, invoke, builtin, List.map_toArray, List.map_cons, List.map_nil, hd, hs, hrun, Sem.run_bind, Sem.run_pure, Result.andThen_ok]
  exact h w' _ h1 h2
end Go.Proofs.Ytcplfempajfcdaa
