/- append onto a slice of the call's own, and a fresh slice: plain laws of the walk, no program text of the functions. -/
import Derived.Test.YtfedhjfijcnpdaaMem
import Derived.Maps.AppendAt
import Derived.Deep.RegionLaw
namespace Go.Proofs.Ytfedhjfijcnpdaa
open Go.ChangeShapes Go.WideShapes Go.ChangeAt Go.RowKit Go.Joins

section
variable {P : Program}
/-- Whatever source reads as m elements: the new value owns both; it lies where the old one lay, or in the new last block. -/
theorem run_app (w : World) (base : Nat) (t ty e : TypeId) (z : Value) (size bytes : Nat) (ht : P.underlying t = some (.slice e)) (hinfo : (P.info? e).map (fun i => (i.zero, i.size, i.bytes)) = some (some z, size, bytes))
    (hzs : z.cells.size = size) (hsz : 0 < size) (v : Value) (n : Nat) (xs : List Value) (hown : w.ownsRow base e size v n xs)
    (u : Value) (m : Nat) (news : List Value) (hr : Rd w u m news) (hl : news.length = m * size) (h1 : ∀ c ∈ news, c.oneCell' = true)
    (hsmall : n + m ≤ 1099511627776) (hby : bytes ≤ 64) (hbase : base ≤ w.heap.size) :
    ∃ v' w', (Builtin.append_ #[t, t] ty #[v, u]).run P w = .ok v' w' ∧ w'.ownsRow base e size v' (n + m) (xs ++ news) ∧ w.grownBy w' v.ownBlock ∧ (v'.ownBlock = v.ownBlock ∨ v'.ownBlock = some w.heap.size) := by
  obtain ⟨i0, hi, hz0, hz1, hz2⟩ := info_parts hinfo
  obtain ⟨a, cap, b, off, rfl, hmc, hcap, ha, hc⟩ := hr
  have h63 : n + m ≤ maxLen := by rw [maxLen_eq]; omega
  have hbytes : (n + m) * bytes ≤ 140737488355328 := Nat.le_trans (Nat.mul_le_mul hsmall hby) (by decide)
  by_cases hm : m = 0
  · subst hm
    have hn : news = [] := List.eq_nil_of_length_eq_zero (by simpa using hl)
    subst hn
    rcases a with _ | ad
    · refine ⟨v, w, ?_, by simpa using hown, World.grownBy.refl w _, .inl rfl⟩
      rcases hown.2 with ⟨rfl, rfl⟩ | ⟨g, cap', cur, rfl, _, _, hnc, _⟩
      · simp [Builtin.append_, run_underlying ht, sizeOf, typeInfo, hi, Builtin.lenOf, Builtin.firstCells]
      · simp [Builtin.append_, run_underlying ht, sizeOf, typeInfo, hi, Builtin.lenOf, Builtin.firstCells, hnc, storeCells]
    · obtain ⟨v', w', hrun, h2, h3, _, h5⟩ := run_append_own_at (P := P) w base t ty e i0 z size bytes ht hi hz0 hz1 hz2 hzs hsz v n xs hown ad 0 cap [] hl (by simp) h1 h63 hbytes hbase
      exact ⟨v', w', hrun, h2, h3, h5⟩
  · have hpos : 0 < news.length := by rw [hl]; exact Nat.mul_pos (by omega) hsz
    obtain rfl := ha hpos
    obtain ⟨v', w', hrun, h2, h3, _, h5⟩ := run_append_own_at (P := P) w base t ty e i0 z size bytes ht hi hz0 hz1 hz2 hzs hsz v n xs hown ⟨b, off, none⟩ m cap news hl
      (fun j c hj => by rw [Go.WideShapes.add_plain]; exact hc j c hj) h1 h63 hbytes hbase
    exact ⟨v', w', hrun, h2, h3, h5⟩

theorem wpList_app {ops : Array Oper} {rest : List Oper} {o : Oper} {a : Act} {Q : Exit → Act → World → Prop} (hgd : o.guard = none) (s x : Operand) (t : TypeId)
    (ho : o.op = .call { callee := .builtin .append, args := #[s, x], argTypes := #[t, t] }) (w : World)
    (base : Nat) (e : TypeId) (z : Value) (size bytes : Nat) (ht : P.underlying t = some (.slice e)) (hinfo : (P.info? e).map (fun i => (i.zero, i.size, i.bytes)) = some (some z, size, bytes))
    (hzs : z.cells.size = size) (hsz : 0 < size) (v : Value) (n : Nat) (xs : List Value) (hs : a.eval s = v) (hown : w.ownsRow base e size v n xs)
    (u : Value) (m : Nat) (news : List Value) (hx : a.eval x = u) (hr : Rd w u m news) (hl : news.length = m * size) (h1 : ∀ c ∈ news, c.oneCell' = true)
    (hsmall : n + m ≤ 1099511627776) (hby : bytes ≤ 64) (hbase : base ≤ w.heap.size)
    (h : ∀ v' w', w'.ownsRow base e size v' (n + m) (xs ++ news) → w.grownBy w' v.ownBlock → (v'.ownBlock = v.ownBlock ∨ v'.ownBlock = some w.heap.size) → wpList P ops Q rest (a.put o.dst v') w') : wpList P ops Q (o :: rest) a w := by
  refine wpList_plain hgd fun _ hK => ?_
  obtain ⟨v', w', hrun, h2, h3, h4⟩ := run_app (P := P) w base t o.type e z size bytes ht hinfo hzs hsz v n xs hown u m news hr hl h1 hsmall hby hbase
  unfold Oper.wp execOp
  simp only [ho, resolve, invoke, builtin, Sem.run_bind, Sem.run_pure, Result.andThen_ok, List.map_toArray, List.map_cons, List.map_nil, hs, hx, hrun]
  exact hK _ _ (h v' w' h2 h3 h4)
end

theorem grownBy_trans {a b c : World} {row : Option Nat} (h : a.grownBy b row) (k : b.grownBy c row) : a.grownBy c row :=
  ⟨k.os.trans h.os, k.tape.trans h.tape, k.output.trans h.output, Nat.le_trans h.size k.size, fun j hj hne => (k.block j (Nat.lt_of_lt_of_le hj h.size) hne).trans (h.block j hj hne)⟩
/-- One new block of cells reads as those. -/
theorem rd_alloc (w : World) (cs : Array Value) (t : TypeId) (n : Nat) (hn : n ≤ 9223372036854775807) : Rd (w.alloc (.cells cs t)) (.slice (some ⟨w.heap.size, 0, none⟩) n n) n cs.toList := by
  refine ⟨_, n, w.heap.size, 0, rfl, Nat.le_refl _, hn, fun _ => rfl, fun j u hj => ?_⟩
  rw [Nat.zero_add]
  simpa using hj
/-- An empty literal of whole numbers. -/
theorem OwI.empty (w : World) (B : Nat) (hB : B ≤ w.heap.size) : OwI (w.alloc (.cells #[] 3)) B (.slice (some ⟨w.heap.size, 0, none⟩) 0 0) [] :=
  World.ownsRow_lit w #[] 0 hB (by omega) rfl
theorem grown_alloc {w w' : World} {o : Obj} {row : Option Nat} (h : (w.alloc o).grownBy w' row) : w.grownBy w' row :=
  ⟨h.os, h.tape, h.output, Nat.le_trans (by simp) h.size, fun k hk hne => (h.block k (by simp; omega) hne).trans (Below.heap_alloc w o k hk)⟩

/-- out = append(out, x). -/
theorem wpList_pushI {ops : Array Oper} {rest : List Oper} {o : Oper} {a : Act} {Q : Exit → Act → World → Prop} (hgd : o.guard = none) (s x : Operand)
    (ho : o.op = .call { callee := .builtin .append, args := #[s, x], argTypes := #[27, 27] }) (w : World) (q : Int)
    (B : Nat) (v : Value) (zs : List Int) (hs : a.eval s = v) (hown : OwI w B v zs) (hx : a.eval x = .slice (some ⟨w.heap.size, 0, none⟩) 1 1)
    (hsmall : zs.length ≤ 1099511627775) (hbase : B ≤ w.heap.size)
    (h : ∀ v' w', OwI w' B v' (zs ++ [q]) → w.grownBy w' v.ownBlock → (v'.ownBlock = v.ownBlock ∨ ∃ k, v'.ownBlock = some k ∧ w.heap.size ≤ k) → wpList Try.prog ops Q rest (a.put o.dst v') w') :
    wpList Try.prog ops Q (o :: rest) a (w.alloc (.cells #[.int .i64 q] 3)) := by
  refine wpList_app hgd s x _ ho _ B 3 (.int .i64 0) 1 8 underInts infoInt rfl (by decide) v zs.length (ints zs) hs (hown.alloc _) _ 1 [.int .i64 q] hx (rd_alloc w #[.int .i64 q] 3 1 (by decide)) rfl
    (by intro c hc; simp at hc; subst hc; rfl) (by omega) (by decide) (by simp; omega) fun v' w' h2 h3 h4 => ?_
  refine h v' w' ?_ (grown_alloc h3) ?_
  · unfold OwI
    rw [List.length_append, ints_append]
    exact h2
  · rcases h4 with h4 | h4
    · exact .inl h4
    · exact .inr ⟨_, h4, by simp⟩

/-- append(out, ys...). -/
theorem wpList_appI {ops : Array Oper} {rest : List Oper} {o : Oper} {a : Act} {Q : Exit → Act → World → Prop} (hgd : o.guard = none) (s x : Operand)
    (ho : o.op = .call { callee := .builtin .append, args := #[s, x], argTypes := #[27, 27] }) (w : World)
    (B : Nat) (v : Value) (zs : List Int) (hs : a.eval s = v) (hown : OwI w B v zs) (u : Value) (ys : List Int) (hx : a.eval x = u) (hr : RdI w u ys)
    (hsmall : zs.length + ys.length ≤ 1099511627776) (hbase : B ≤ w.heap.size)
    (h : ∀ v' w', OwI w' B v' (zs ++ ys) → w.grownBy w' v.ownBlock → (v'.ownBlock = v.ownBlock ∨ ∃ k, v'.ownBlock = some k ∧ w.heap.size ≤ k) → wpList Try.prog ops Q rest (a.put o.dst v') w') :
    wpList Try.prog ops Q (o :: rest) a w := by
  refine wpList_app hgd s x _ ho _ B 3 (.int .i64 0) 1 8 underInts infoInt rfl (by decide) v zs.length (ints zs) hs hown u ys.length (ints ys) hx hr (by rw [ints_length, Nat.mul_one]) (ints_one ys) hsmall (by decide) hbase fun v' w' h2 h3 h4 => ?_
  refine h v' w' ?_ h3 ?_
  · unfold OwI
    rw [List.length_append, ints_append]
    exact h2
  · rcases h4 with h4 | h4
    · exact .inl h4
    · exact .inr ⟨_, h4, Nat.le_refl _⟩
theorem OwI.alloc {w : World} {B : Nat} {v : Value} {zs : List Int} (h : OwI w B v zs) (o : Obj) : OwI (w.alloc o) B v zs := World.ownsRow.alloc h o
theorem OwI.drew {w : World} {B : Nat} {v : Value} {zs : List Int} (h : OwI w B v zs) : OwI w.drew B v zs := h
theorem RdI.alloc {w : World} {v : Value} {zs : List Int} (h : RdI w v zs) (o : Obj) : RdI (w.alloc o) v zs := h.below (below_alloc1 w o)
theorem RdI.drew {w : World} {v : Value} {zs : List Int} (h : RdI w v zs) : RdI w.drew v zs := h
theorem rdI_one (w : World) (q : Int) : RdI (w.alloc (.cells #[.int .i64 q] 3)) (.slice (some ⟨w.heap.size, 0, none⟩) 1 1) [q] := rd_alloc w #[.int .i64 q] 3 1 (by decide)
theorem rdI_at (w : World) (q : Int) {g : Nat} (hg : g = w.heap.size) : RdI (w.alloc (.cells #[.int .i64 q] 3)) (.slice (some ⟨g, 0, none⟩) 1 1) [q] := by subst hg; exact rdI_one w q
theorem OwI.empty_at (w : World) (B : Nat) {g : Nat} (hg : g = w.heap.size) (hB : B ≤ w.heap.size) : OwI (w.alloc (.cells #[] 3)) B (.slice (some ⟨g, 0, none⟩) 0 0) [] := by subst hg; exact OwI.empty w B hB
/-- What is read goes on behind a push or an append onto another block of the call's own. -/
theorem RdI.grown {w w' : World} {u v : Value} {ys zs : List Int} {B : Nat} (h : RdI w u ys) (o : OwI w B v zs) (hg : w.grownBy w' v.ownBlock) (hu : ∀ (b : Nat) (o' n c : Nat), u = .slice (some ⟨b, o', none⟩) n c → b < B) : RdI w' u ys := by
  obtain ⟨a, cap, b, off, rfl, h1, h2, h3, h4⟩ := h
  refine ⟨a, cap, b, off, rfl, h1, h2, h3, fun j c hj => ?_⟩
  have hp : 0 < (ints ys).length := by
    rcases Nat.eq_zero_or_pos (ints ys).length with h0 | h0
    · rw [List.eq_nil_of_length_eq_zero h0] at hj; simp at hj
    · exact h0
  obtain rfl := h3 hp
  have hb := hu b off _ _ rfl
  have hc := h4 j c hj
  refine hg.cell hc (fun e => ?_)
  have := (o.lt b e.symm).1
  omega
theorem RdI.kept {w w' : World} {u v : Value} {ys : List Int} (h : RdI w u ys) (hg : w.grownBy w' v.ownBlock) (hu : Dis u v) : RdI w' u ys := by
  obtain ⟨a, cap, b, off, rfl, h1, h2, h3, h4⟩ := h
  refine ⟨a, cap, b, off, rfl, h1, h2, h3, fun j c hj => ?_⟩
  have hp : 0 < (ints ys).length := by
    rcases Nat.eq_zero_or_pos (ints ys).length with h0 | h0
    · rw [List.eq_nil_of_length_eq_zero h0] at hj; simp at hj
    · exact h0
  obtain rfl := h3 hp
  refine hg.cell (h4 j c hj) (fun e => ?_)
  rcases hu with hu | hu
  · simp [Value.ownBlock] at hu
  · exact hu (by simpa [Value.ownBlock] using e)
/-- Two parts of a slice: its first k elements, the rest. -/
theorem RdI.parts {w : World} {zs : List Int} {bl off cap k : Nat} (hcap : zs.length ≤ cap) (hmax : cap ≤ 9223372036854775807) (hk : k ≤ zs.length)
    (hc : ∀ j, j < zs.length → w.cell? ⟨bl, off + j, none⟩ = some (.int .i64 (zs.getD j 0))) :
    RdI w (.slice (some ⟨bl, off, none⟩) k cap) (zs.take k) ∧ RdI w (.slice (if cap = k then some ⟨bl, off, none⟩ else some ⟨bl, off + k, none⟩) (zs.length - k) (cap - k)) (zs.drop k) := by
  constructor
  · refine ⟨_, cap, bl, off, by rw [List.length_take]; congr 1; omega, by rw [List.length_take]; omega, hmax, fun _ => rfl, fun j u hj => ?_⟩
    rw [ints_get, List.getElem?_take] at hj
    split at hj
    · have hjl : j < zs.length := by omega
      rw [List.getElem?_eq_getElem hjl] at hj
      simp at hj
      subst hj
      rw [hc j hjl]
      simp [hjl]
    · simp at hj
  · refine ⟨_, cap - k, bl, off + k, by rw [List.length_drop], by rw [List.length_drop]; omega, by omega, fun hp => ?_, fun j u hj => ?_⟩
    · rw [ints_length, List.length_drop] at hp
      rw [if_neg (by omega)]
    · rw [ints_get, List.getElem?_drop] at hj
      have hjl : k + j < zs.length := by
        rcases Nat.lt_or_ge (k + j) zs.length with h | h
        · exact h
        · rw [List.getElem?_eq_none h] at hj; simp at hj
      rw [List.getElem?_eq_getElem hjl] at hj
      simp at hj
      subst hj
      rw [Nat.add_assoc, hc (k + j) hjl]
      simp [hjl]
/-- The same at one step of a region that draws its order. -/
theorem step_appI {ops : Array Oper} {o : Oper} {a : Act} {K : Act → World → Prop} {Q : Exit → Act → World → Prop} {E : Prop} (hgd : o.guard = none) (s x : Operand)
    (ho : o.op = .call { callee := .builtin .append, args := #[s, x], argTypes := #[27, 27] }) (w : World)
    (B : Nat) (v : Value) (zs : List Int) (hs : a.eval s = v) (hown : OwI w B v zs) (u : Value) (ys : List Int) (hx : a.eval x = u) (hr : RdI w u ys)
    (hsmall : zs.length + ys.length ≤ 1099511627776) (hbase : B ≤ w.heap.size)
    (h : ∀ v' w', OwI w' B v' (zs ++ ys) → w.grownBy w' v.ownBlock → (v'.ownBlock = v.ownBlock ∨ ∃ k, v'.ownBlock = some k ∧ w.heap.size ≤ k) → K (a.put o.dst v') w') :
    if Region.wanted o (yielded ops a.tmps) = true then Oper.wp Try.prog o a w K Q else E := by
  have hw : Region.wanted o (yielded ops a.tmps) = true := by simp [Region.wanted, hgd]
  rw [if_pos hw]
  obtain ⟨v', w', hrun, h2, h3, h4⟩ := run_app (P := Try.prog) w B 27 o.type 3 (.int .i64 0) 1 8 underInts infoInt rfl (by decide) v zs.length (ints zs) hown u ys.length (ints ys) hr (by rw [ints_length, Nat.mul_one]) (ints_one ys) hsmall (by decide) hbase
  unfold Oper.wp execOp
  simp only [ho, resolve, invoke, builtin, Sem.run_bind, Sem.run_pure, Result.andThen_ok, List.map_toArray, List.map_cons, List.map_nil, hs, hx, hrun]
  refine h v' w' ?_ h3 ?_
  · unfold OwI
    rw [List.length_append, ints_append]
    exact h2
  · rcases h4 with h4 | h4
    · exact .inl h4
    · exact .inr ⟨_, h4, Nat.le_refl _⟩
end Go.Proofs.Ytfedhjfijcnpdaa
