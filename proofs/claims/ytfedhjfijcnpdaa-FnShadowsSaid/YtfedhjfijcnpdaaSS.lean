/- Slices of slices of whole numbers: what one reads as (RdII), one of the call's own (OwII); a store, an append onto one. Plain lemmas, no program text. -/
import Derived.Test.YtfedhjfijcnpdaaApp
import Derived.Test.YtfedhjfijcnpdaaOpen
import Derived.Test.YtfedhjfijcnpdaaInts
namespace Go.Proofs.Ytfedhjfijcnpdaa
open Go.ChangeShapes Go.WideShapes Go.ChangeAt Go.RowKit Go.Joins Go.Deep
set_option linter.unusedSimpArgs false
set_option linter.unusedVariables false

abbrev LL := List (List Int)
/-- v reads in w as a list of lists. -/
def RdII (w : World) (v : Value) (zss : LL) : Prop :=
  ∃ us : List Value, us.length = zss.length ∧ Rd w v zss.length us ∧ ∀ (j : Nat) (u : Value) (zs : List Int), us[j]? = some u → zss[j]? = some zs → RdI w u zs
theorem RdII.below {w w' : World} {v : Value} {zss : LL} (h : RdII w v zss) (hb : Below w.heap.size w w') : RdII w' v zss := by
  obtain ⟨us, h1, h2, h3⟩ := h
  exact ⟨us, h1, h2.below hb, fun j u zs hu hz => (h3 j u zs hu hz).below hb⟩
theorem RdII.shape {w : World} {v : Value} {zss : LL} (h : RdII w v zss) : ∃ a cap, v = .slice a zss.length cap := by
  obtain ⟨us, _, ⟨a, cap, b, off, hv, _⟩, _⟩ := h
  exact ⟨a, cap, hv⟩
theorem RdII.open {w : World} {v : Value} {zss : LL} (h : RdII w v zss) : ∃ (a : Option Addr) (cap b off : Nat), v = .slice a zss.length cap ∧ zss.length ≤ cap ∧ cap ≤ 9223372036854775807 ∧
    (0 < zss.length → a = some ⟨b, off, none⟩) ∧ ∀ k zs, zss[k]? = some zs → ∃ u, w.cell? ⟨b, off + k, none⟩ = some u ∧ RdI w u zs := by
  obtain ⟨us, h1, ⟨a, cap, b, off, hv, h2, h3, h4, h5⟩, h6⟩ := h
  refine ⟨a, cap, b, off, hv, h2, h3, fun h0 => h4 (by omega), fun k zs hz => ?_⟩
  have hk := (List.getElem?_eq_some_iff.1 hz).1
  have hu : us[k]? = some (us[k]'(by omega)) := List.getElem?_eq_getElem (by omega)
  exact ⟨_, h5 k _ hu, h6 k _ _ hu hz⟩

/-- The inner slices of one of the call's own: us hold zss, each apart from the others and from V. -/
def OwRows (w : World) (B : Nat) (V : Value) (us : List Value) (zss : LL) : Prop :=
  us.length = zss.length ∧ (∀ (j : Nat) (u : Value) (zs : List Int), us[j]? = some u → zss[j]? = some zs → OwI w B u zs) ∧ (∀ u ∈ us, Dis u V) ∧ us.Pairwise Dis
theorem Dis.symm {u v : Value} (h : Dis u v) : Dis v u := by
  rcases hv : v.ownBlock with _ | k
  · exact .inl hv
  · refine .inr fun e => ?_
    rcases h with h | h
    · rw [hv, h] at e; simp at e
    · exact h e.symm
theorem OwRows.nil (w : World) (B : Nat) (V : Value) : OwRows w B V [] [] := ⟨rfl, by simp, by simp, List.Pairwise.nil⟩
theorem OwRows.below {w w' : World} {B : Nat} {V : Value} {us : List Value} {zss : LL} (h : OwRows w B V us zss) (hb : Below w.heap.size w w') : OwRows w' B V us zss :=
  ⟨h.1, fun j u zs hu hz => (h.2.1 j u zs hu hz).below hb, h.2.2⟩
theorem OwRows.base {w : World} {B B' : Nat} {V : Value} {us : List Value} {zss : LL} (h : OwRows w B V us zss) (hb : B' ≤ B) : OwRows w B' V us zss :=
  ⟨h.1, fun j u zs hu hz => (h.2.1 j u zs hu hz).base hb, h.2.2⟩
theorem OwRows.kept {w w' : World} {B : Nat} {V x : Value} {us : List Value} {zss : LL} (h : OwRows w B V us zss) (hg : w.grownBy w' x.ownBlock) (hd : ∀ u ∈ us, Dis u x) : OwRows w' B V us zss :=
  ⟨h.1, fun j u zs hu hz => (h.2.1 j u zs hu hz).kept hg (hd u (List.mem_of_getElem? hu)), h.2.2⟩
theorem OwRows.mem {w : World} {B : Nat} {V : Value} {us : List Value} {zss : LL} (h : OwRows w B V us zss) {u : Value} (hu : u ∈ us) : ∃ zs, OwI w B u zs := by
  obtain ⟨j, hj⟩ := List.getElem?_of_mem hu
  have hl := (List.getElem?_eq_some_iff.1 hj).1
  have := h.1
  exact ⟨_, h.2.1 j u _ hj (List.getElem?_eq_getElem (by omega))⟩
theorem OwRows.move {w : World} {B : Nat} {V V' : Value} {us : List Value} {zss : LL} (h : OwRows w B V us zss) (hd : ∀ u ∈ us, Dis u V') : OwRows w B V' us zss := ⟨h.1, h.2.1, hd, h.2.2.2⟩
theorem OwRows.snoc {w : World} {B : Nat} {V : Value} {us : List Value} {zss : LL} (h : OwRows w B V us zss) {u : Value} {zs : List Int} (ho : OwI w B u zs) (hV : Dis u V) (hd : ∀ x ∈ us, Dis x u) : OwRows w B V (us ++ [u]) (zss ++ [zs]) := by
  obtain ⟨h1, h2, h3, h4⟩ := h
  refine ⟨by simp [h1], fun j x ys hx hy => ?_, ?_, ?_⟩
  · by_cases hj : j < us.length
    · rw [List.getElem?_append_left hj] at hx
      rw [List.getElem?_append_left (by omega)] at hy
      exact h2 j x ys hx hy
    · rw [List.getElem?_append_right (by omega)] at hx
      rw [List.getElem?_append_right (by omega), ← h1] at hy
      have h0 : j - us.length = 0 := by
        rcases Nat.eq_zero_or_pos (j - us.length) with h0 | h0
        · exact h0
        · rw [List.getElem?_eq_none (by simp; omega)] at hx; simp at hx
      rw [h0] at hx hy
      simp at hx hy
      subst hx hy
      exact ho
  · intro x hx
    rcases List.mem_append.1 hx with hx | hx
    · exact h3 x hx
    · simp at hx; subst hx; exact hV
  · rw [List.pairwise_append]
    refine ⟨h4, by simp, fun x hx y hy => ?_⟩
    simp at hy
    subst hy
    exact hd x hx
/-- v is a slice of slices, all of the call's own, that holds zss. -/
def OwII (w : World) (B : Nat) (v : Value) (zss : LL) : Prop :=
  ∃ us : List Value, w.ownsRow B 27 1 v zss.length us ∧ OwRows w B v us zss
theorem OwII.below {w w' : World} {B : Nat} {v : Value} {zss : LL} (h : OwII w B v zss) (hb : Below w.heap.size w w') : OwII w' B v zss := by
  obtain ⟨us, h1, h2⟩ := h
  exact ⟨us, own_below h1 hb, h2.below hb⟩
theorem OwII.base {w : World} {B B' : Nat} {v : Value} {zss : LL} (h : OwII w B v zss) (hb : B' ≤ B) : OwII w B' v zss := by
  obtain ⟨us, h1, h2⟩ := h
  exact ⟨us, own_base h1 hb, h2.base hb⟩
theorem OwII.rd {w : World} {B : Nat} {v : Value} {zss : LL} (h : OwII w B v zss) : RdII w v zss := by
  obtain ⟨us, h1, h2⟩ := h
  exact ⟨us, h2.1, Rd.of_own h1, fun j u zs hu hz => (h2.2.1 j u zs hu hz).rd⟩
theorem OwII.lt {w : World} {B : Nat} {v : Value} {zss : LL} (h : OwII w B v zss) : ∀ k, v.ownBlock = some k → B ≤ k ∧ k < w.heap.size := by
  obtain ⟨us, h1, h2⟩ := h
  exact World.ownsRow.lt h1
theorem OwII.drew {w : World} {B : Nat} {v : Value} {zss : LL} (h : OwII w B v zss) : OwII w.drew B v zss := h
theorem OwII.nil (w : World) (B : Nat) : OwII w B (.slice none 0 0) [] := ⟨[], World.ownsRow_nil _ _ _ _, OwRows.nil _ _ _⟩
theorem OwII.empty (w : World) (B : Nat) (hB : B ≤ w.heap.size) : OwII (w.alloc (.cells #[] 27)) B (.slice (some ⟨w.heap.size, 0, none⟩) 0 0) [] :=
  ⟨[], World.ownsRow_lit w #[] 0 hB (by omega) rfl, OwRows.nil _ _ _⟩
/-- Behind a store into a block of another's: all stays. -/
theorem OwII.kept_lt {w w' : World} {B C : Nat} {v x : Value} {zss : LL} (h : OwII w B v zss) (hg : w.grownBy w' x.ownBlock) (hx : ∀ k, x.ownBlock = some k → k < B) : OwII w' B v zss := by
  obtain ⟨us, h1, h2⟩ := h
  have hd : ∀ u, (∀ k, u.ownBlock = some k → B ≤ k) → Dis u x := by
    intro u hu
    rcases hk : u.ownBlock with _ | k
    · exact .inl hk
    · refine .inr fun e => ?_
      rw [hk] at e
      have := hx k e.symm
      have := hu k hk
      omega
  refine ⟨us, World.ownsRow.kept h1 hg (hd v fun k hk => (World.ownsRow.lt h1 k hk).1), h2.kept hg fun u hu => ?_⟩
  obtain ⟨zs, ho⟩ := h2.mem hu
  exact hd u fun k hk => (ho.lt k hk).1
theorem infoInts : (Try.prog.info? 27).map (fun i => (i.zero, i.size, i.bytes)) = some (some (.slice none 0 0), 1, 24) := by kernel_rfl
theorem underIntss : Try.prog.underlying 42 = some (.slice 27) := Try.underlying42
theorem cellsInts : Try.prog.cellsOf 27 = 1 := by kernel_rfl
theorem own_one {w : World} {B : Nat} {u : Value} {zs : List Int} (h : OwI w B u zs) : u.oneCell' = true := by
  rcases h.slice with ⟨rfl, _⟩ | ⟨g, cap, rfl, _⟩ <;> rfl
theorem OwII.block_lt {w : World} {B : Nat} {V : Value} {us : List Value} {zss : LL} (h : OwRows w B V us zss) {y : Value} (hy : y ∈ us) : ∀ k, y.ownBlock = some k → B ≤ k ∧ k < w.heap.size := by
  obtain ⟨ys, hoy⟩ := h.mem hy
  exact hoy.lt
theorem dis_lt {y r : Value} {C : Nat} (hy : ∀ k, y.ownBlock = some k → k < C) (hr : ∀ k, r.ownBlock = some k → C ≤ k) : Dis y r := by
  rcases hk : y.ownBlock with _ | k
  · exact .inl hk
  · refine .inr fun e => ?_
    rw [hk] at e
    have := hr k e.symm
    have := hy k hk
    omega
theorem OwII.pushed {w0 w w' : World} {B : Nat} {v v' r : Value} {us : List Value} {zss : LL} {zs : List Int} (h1 : w0.ownsRow B 27 1 v zss.length us) (h2 : OwRows w0 B v us zss) (hb : Below w0.heap.size w0 w) (hor : OwI w B r zs) (hrn : ∀ k, r.ownBlock = some k → w0.heap.size ≤ k)
    (h3 : w'.ownsRow B 27 1 v' (zss.length + 1) (us ++ [r])) (h4 : w.grownBy w' v.ownBlock) (h5 : v'.ownBlock = v.ownBlock ∨ v'.ownBlock = some w.heap.size) : OwII w' B v' (zss ++ [zs]) := by
  have hvl : ∀ k, v.ownBlock = some k → k < w0.heap.size := fun k hk => (World.ownsRow.lt h1 k hk).2
  have hrv : Dis r v := (dis_lt hvl hrn).symm
  have hall : ∀ y ∈ us ++ [r], Dis y v' := by
    intro y hy
    have hyv : Dis y v ∧ (∀ k, y.ownBlock = some k → k < w.heap.size) := by
      rcases List.mem_append.1 hy with hy | hy
      · exact ⟨h2.2.2.1 y hy, fun k hk => Nat.lt_of_lt_of_le (OwII.block_lt h2 hy k hk).2 hb.size⟩
      · simp at hy; subst hy
        exact ⟨hrv, fun k hk => (hor.lt k hk).2⟩
    rcases h5 with h5 | h5
    · unfold Dis
      rw [h5]
      exact hyv.1
    · exact dis_lt hyv.2 (fun k hk => by rw [h5] at hk; simp at hk; omega)
  refine ⟨us ++ [r], ?_, ?_⟩
  · rw [List.length_append]; exact h3
  · have h6 : OwRows w' B v us zss := (h2.below hb).kept h4 h2.2.2.1
    have h7 : OwRows w' B v' us zss := h6.move fun y hy => hall y (List.mem_append_left _ hy)
    exact h7.snoc (hor.kept h4 hrv) (hall r (by simp)) (fun y hy => dis_lt (fun k hk => (OwII.block_lt h2 hy k hk).2) hrn)
/-- append(out, row). -/
theorem wpList_appII {ops : Array Oper} {rest : List Oper} {o : Oper} {a : Act} {Q : Exit → Act → World → Prop} (hgd : o.guard = none) (s x : Operand)
    (ho : o.op = .call { callee := .builtin .append, args := #[s, x], argTypes := #[42, 42] }) (w0 w : World) (hb : Below w0.heap.size w0 w)
    (B : Nat) (v : Value) (zss : LL) (hs : a.eval s = v) (hown : OwII w0 B v zss) (u r : Value) (zs : List Int) (hx : a.eval x = u) (hr : Rd w u 1 [r]) (hor : OwI w B r zs)
    (hrn : ∀ k, r.ownBlock = some k → w0.heap.size ≤ k)
    (hsmall : zss.length + 1 ≤ 1099511627776) (hbase : B ≤ w.heap.size)
    (h : ∀ v' w', OwII w' B v' (zss ++ [zs]) → w.grownBy w' v.ownBlock → wpList Try.prog ops Q rest (a.put o.dst v') w') :
    wpList Try.prog ops Q (o :: rest) a w := by
  obtain ⟨us, h1, h2⟩ := hown
  refine wpList_app hgd s x _ ho _ B 27 (.slice none 0 0) 1 24 underIntss infoInts rfl (by decide) v zss.length us hs (own_below h1 hb) u 1 [r] hx hr rfl (by intro c hc; simp at hc; subst hc; exact own_one hor) hsmall (by decide) hbase fun v' w' h3 h4 h5 => ?_
  exact h v' w' (OwII.pushed h1 h2 hb hor hrn h3 h4 h5) h4
/-- .. at one step of a region that draws its order. -/
theorem step_appII {ops : Array Oper} {o : Oper} {a : Act} {K : Act → World → Prop} {Q : Exit → Act → World → Prop} {E : Prop} (hgd : o.guard = none) (s x : Operand)
    (ho : o.op = .call { callee := .builtin .append, args := #[s, x], argTypes := #[42, 42] }) (w0 w : World) (hb : Below w0.heap.size w0 w)
    (B : Nat) (v : Value) (zss : LL) (hs : a.eval s = v) (hown : OwII w0 B v zss) (u r : Value) (zs : List Int) (hx : a.eval x = u) (hr : Rd w u 1 [r]) (hor : OwI w B r zs)
    (hrn : ∀ k, r.ownBlock = some k → w0.heap.size ≤ k)
    (hsmall : zss.length + 1 ≤ 1099511627776) (hbase : B ≤ w.heap.size)
    (h : ∀ v' w', OwII w' B v' (zss ++ [zs]) → w.grownBy w' v.ownBlock → K (a.put o.dst v') w') :
    if Region.wanted o (yielded ops a.tmps) = true then Oper.wp Try.prog o a w K Q else E := by
  have hw : Region.wanted o (yielded ops a.tmps) = true := by simp [Region.wanted, hgd]
  rw [if_pos hw]
  obtain ⟨us, h1, h2⟩ := hown
  obtain ⟨v', w', hrun, h3, h4, h5⟩ := run_app (P := Try.prog) w B 42 o.type 27 (.slice none 0 0) 1 24 underIntss infoInts rfl (by decide) v zss.length us (own_below h1 hb) u 1 [r] hr rfl (by intro c hc; simp at hc; subst hc; exact own_one hor) hsmall (by decide) hbase
  unfold Oper.wp execOp
  simp only [ho, resolve, invoke, builtin, Sem.run_bind, Sem.run_pure, Result.andThen_ok, List.map_toArray, List.map_cons, List.map_nil, hs, hx, hrun]
  exact h v' w' (OwII.pushed h1 h2 hb hor hrn h3 h4 h5) h4
/-- The row k of one of the call's own: its cell, what it holds, and the whole behind a change of that row. -/
theorem OwII.at {w : World} {B g cap : Nat} {zss : LL} (h : OwII w B (.slice (some ⟨g, 0, none⟩) zss.length cap) zss) {k : Nat} {zs : List Int} (hk : zss[k]? = some zs) :
    ∃ u, w.cell? ⟨g, k, none⟩ = some u ∧ OwI w B u zs ∧ ∀ w' ys, OwI w' B u ys → w.grownBy w' u.ownBlock → OwII w' B (.slice (some ⟨g, 0, none⟩) zss.length cap) (zss.set k ys) ∧ Below B w w' := by
  obtain ⟨us, h1, h2⟩ := h
  have hkl := (List.getElem?_eq_some_iff.1 hk).1
  have hul := h2.1
  have hu : us[k]? = some (us[k]'(by omega)) := List.getElem?_eq_getElem (by omega)
  generalize us[k]'(by omega) = u at hu
  have hou := h2.2.1 k u zs hu hk
  refine ⟨u, ?_, hou, fun w' ys ho hg => ⟨⟨us, ?_, ?_⟩, ?_⟩⟩
  · rw [World.ownsRow.cellAt h1 k (by omega)]
    exact hu
  · rw [List.length_set]
    exact World.ownsRow.kept h1 hg (h2.2.2.1 u (List.mem_of_getElem? hu)).symm
  · refine ⟨by simp [hul], fun j x xs hx hxs => ?_, h2.2.2⟩
    rw [List.getElem?_set] at hxs
    by_cases hj : k = j
    · subst hj
      rw [if_pos rfl, if_pos hkl] at hxs
      simp at hxs
      subst hxs
      rw [hu] at hx
      simp at hx
      subst hx
      exact ho
    · rw [if_neg hj] at hxs
      refine (h2.2.1 j x xs hx hxs).kept hg ?_
      have hp := List.pairwise_iff_getElem.1 h2.2.2.2
      obtain ⟨hjl, hxe⟩ := List.getElem?_eq_some_iff.1 hx
      obtain ⟨hkl', hue⟩ := List.getElem?_eq_some_iff.1 hu
      rcases Nat.lt_or_gt_of_ne hj with hlt | hlt
      · have := hp k j hkl' hjl hlt
        rw [hue, hxe] at this
        exact this.symm
      · have := hp j k hjl hkl' hlt
        rw [hue, hxe] at this
        exact this
  · have hB := World.ownsRow.lt h1 g rfl
    exact (Below.refl B w).grown hg (by omega) (fun q hq => (hou.lt q hq).1)
section
variable {H : Type} {enc : TypeId × Value → H}
/-- An argument of type [][]int reads as a list of lists. -/
theorem open_rdII {W : World} {r : Reach} {base : Nat} {v : Value} {d : DataW H} {p : List MemPlace} (hv : Value.okWide Try.prog W r base 42 v) (h : DataW.Trod enc Try.prog W 0 (fun _ => true) true 42 v d p) :
    ∃ zss : LL, RdII W v zss := by
  obtain ⟨a1, len, cap, rfl⟩ := okWide_slice underIntss hv
  obtain ⟨fuel, hf⟩ := h
  rcases open_slice underIntss hf with ⟨hcs, hx⟩ | ⟨a, len', cap', m, n, D, Pl, hcs, _, hl, hm, hmm, hx, hi⟩
  · simp [Value.cells] at hcs
    obtain ⟨rfl, rfl, rfl⟩ := hcs
    exact ⟨[], (OwII.nil W 0).rd⟩
  · simp [Value.cells] at hcs
    obtain ⟨rfl, rfl, rfl⟩ := hcs
    simp only [ite_true] at hmm
    rw [maxLen_eq] at hm
    obtain ⟨zss, hzl, hz⟩ := list_of len (fun i (x : Value × List Int) => W.cell? (a.add i) = some x.1 ∧ RdI W x.1 x.2) (by
      intro i hil
      obtain ⟨cs, hc, ht⟩ := hi i (by omega)
      rw [cellsInts, Nat.mul_one] at hc
      obtain ⟨_, hcl, hat⟩ := World.cells?_some hc
      rcases open_ints underInts underInt cellsInt ht with ⟨rfl, hx⟩ | ⟨a2, len2, cap2, zs, rfl, _, hl2, hm2, hz2, hx2, hcell, hwz⟩
      · refine ⟨(.slice none 0 0, []), ?_, (OwI.nil W 0).rd⟩
        have := hat 0 (by omega)
        simpa [Addr.add] using this
      · refine ⟨(.slice (some a2) len2 cap2, zs.take len2), ?_, ?_⟩
        · have := hat 0 (by omega)
          simpa [Addr.add] using this
        · simp only [ite_true] at hz2
          rw [maxLen_eq] at hm2
          have hlen : (zs.take len2).length = len2 := by rw [List.length_take]; omega
          unfold RdI
          rw [hlen]
          by_cases h0 : len2 = 0
          · subst h0
            exact ⟨some a2, cap2, 0, 0, rfl, hl2, hm2, by simp [ints], by simp [ints]⟩
          · obtain ⟨b, off, rfl, hc2⟩ := ints_at hcell (by omega)
            refine ⟨_, cap2, b, off, rfl, hl2, hm2, fun _ => rfl, fun j u hj => ?_⟩
            rw [ints_get, List.getElem?_take] at hj
            split at hj
            · have hjl : j < zs.length := by omega
              rw [List.getElem?_eq_getElem hjl] at hj
              simp at hj
              subst hj
              rw [hc2 j hjl]
              simp [hjl]
            · simp at hj)
    refine ⟨zss.map (·.2), zss.map (·.1), by simp, ?_, ?_⟩
    · rw [List.length_map, hzl]
      by_cases h0 : len = 0
      · subst h0
        have : zss = [] := List.eq_nil_of_length_eq_zero hzl
        subst this
        exact ⟨some a, cap, 0, 0, rfl, hl, hm, by simp, by simp⟩
      · obtain ⟨x, hx0⟩ : ∃ x, zss[0]? = some x := ⟨_, List.getElem?_eq_getElem (by omega)⟩
        have hc0 := (hz 0 x hx0).1
        obtain ⟨b, off, spot⟩ := a
        have hspot : spot = none := by simpa [Addr.add] using World.cell?_spot hc0
        subst hspot
        refine ⟨_, cap, b, off, rfl, hl, hm, fun _ => rfl, fun j u hj => ?_⟩
        rw [List.getElem?_map] at hj
        obtain ⟨y, hy, rfl⟩ := Option.map_eq_some_iff.1 hj
        have := (hz j y hy).1
        rw [Go.WideShapes.add_plain] at this
        exact this
    · intro j u zs hu hzs
      rw [List.getElem?_map] at hu hzs
      obtain ⟨y, hy, rfl⟩ := Option.map_eq_some_iff.1 hu
      obtain ⟨y', hy', rfl⟩ := Option.map_eq_some_iff.1 hzs
      rw [hy] at hy'
      simp at hy'
      subst hy'
      exact (hz j y hy).2
end
end Go.Proofs.Ytfedhjfijcnpdaa
