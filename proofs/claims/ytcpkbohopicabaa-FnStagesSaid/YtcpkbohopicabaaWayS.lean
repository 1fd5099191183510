/- The lists that WayAround of the program holds: seen and next of its own, and what it reads. -/
import Derived.Test.YtcpkbohopicabaaWayP
import Derived.Test.YtcpkbohopicabaaApSpot
namespace Go.Proofs.Ytcpkbohopicabaa
open Go.ChangeShapes Go.WideShapes Go.ChangeAt Go.RowKit Go.Joins Go.Deep
set_option linter.unusedSimpArgs false
set_option linter.unusedVariables false

def Apart (u v : Value) : Prop := ∀ k, u.ownBlock = some k → v.ownBlock = some k → False
theorem Apart.symm {u v : Value} (h : Apart u v) : Apart v u := fun k h1 h2 => h k h2 h1
theorem Apart.dis {u v : Value} (h : Apart u v) : Dis u v := by
  rcases hu : u.ownBlock with _ | k
  · exact .inl hu
  · exact .inr fun e => h k hu (by rw [← e]; exact hu)
theorem apart_lt {u v : Value} {N : Nat} (hu : ∀ k, u.ownBlock = some k → k < N) (hv : ∀ k, v.ownBlock = some k → N ≤ k) : Apart u v := fun k h1 h2 => by
  have := hu k h1
  have := hv k h2
  omega
theorem Apart.next {u v v' : Value} {N : Nat} (h : Apart u v) (hu : ∀ k, u.ownBlock = some k → k < N) (hn : v'.ownBlock = v.ownBlock ∨ ∃ k, v'.ownBlock = some k ∧ N ≤ k) : Apart u v' := by
  rcases hn with hn | ⟨k, hk, hN⟩
  · intro q h1 h2
    exact h q h1 (by rw [← hn]; exact h2)
  · refine apart_lt hu fun q hq => ?_
    rw [hk] at hq
    cases hq
    exact hN
structure Sc (w0 w : World) (ua ub : Value) (seen next : List Sp) (R : List (Value × List Sp)) : Prop where
  oa : OwSpot w w0.heap.size ua seen
  ob : OwSpot w w0.heap.size ub next
  ab : Apart ua ub
  rd : ∀ r ∈ R, RdSpot w r.1 r.2 ∧ Apart r.1 ua ∧ Apart r.1 ub ∧ ∀ k, r.1.ownBlock = some k → k < w.heap.size
  hB : Below w0.heap.size w0 w
theorem Sc.below {w0 w w' : World} {ua ub : Value} {seen next : List Sp} {R : List (Value × List Sp)} (h : Sc w0 w ua ub seen next R) (hb : Below w.heap.size w w') : Sc w0 w' ua ub seen next R :=
  ⟨h.oa.below hb, h.ob.below hb, h.ab, fun r hr => by
    obtain ⟨h1, h2, h3, h4⟩ := h.rd r hr
    exact ⟨h1.below hb, h2, h3, fun k hk => Nat.lt_of_lt_of_le (h4 k hk) hb.size⟩, bvia h.hB hb⟩
theorem Sc.drew {w0 w : World} {ua ub : Value} {seen next : List Sp} {R : List (Value × List Sp)} (h : Sc w0 w ua ub seen next R) : Sc w0 w.drew ua ub seen next R :=
  ⟨h.oa.drew, h.ob.drew, h.ab, fun r hr => by
    obtain ⟨h1, h2, h3, h4⟩ := h.rd r hr
    exact ⟨h1.drew, h2, h3, h4⟩, h.hB.drew⟩
theorem Sc.alloc {w0 w : World} {ua ub : Value} {seen next : List Sp} {R : List (Value × List Sp)} (h : Sc w0 w ua ub seen next R) (o : Obj) : Sc w0 (w.alloc o) ua ub seen next R := h.below (below_alloc1 w o)
theorem Sc.new_at {w0 w : World} {ua ub : Value} {seen next : List Sp} {R : List (Value × List Sp)} (h : Sc w0 w ua ub seen next R) (p q : Int) {g : Nat} (hg : g = w.heap.size) :
    Sc w0 (w.alloc (.cells #[.int .i64 p, .int .i64 q] 50)) ua ub seen next ((.slice (some ⟨g, 0, none⟩) 1 1, [(p, q)]) :: R) := by
  have h2 := h.alloc (.cells #[.int .i64 p, .int .i64 q] 50)
  refine ⟨h2.oa, h2.ob, h2.ab, fun r hr => ?_, h2.hB⟩
  rcases List.mem_cons.1 hr with rfl | hr
  · subst hg
    have hg1 : ∀ k, (Value.slice (some ⟨w.heap.size, 0, none⟩) 1 1).ownBlock = some k → w.heap.size ≤ k := fun k hk => by
      simp [Value.ownBlock] at hk
      omega
    refine ⟨rdSpot_one w p q, (apart_lt (fun k hk => (h.oa.lt k hk).2) hg1).symm, (apart_lt (fun k hk => (h.ob.lt k hk).2) hg1).symm, fun k hk => ?_⟩
    simp [Value.ownBlock] at hk
    simp
    omega
  · exact h2.rd r hr
theorem Sc.new {w0 w : World} {ua ub : Value} {seen next : List Sp} {R : List (Value × List Sp)} (h : Sc w0 w ua ub seen next R) (p q : Int) :
    Sc w0 (w.alloc (.cells #[.int .i64 p, .int .i64 q] 50)) ua ub seen next ((.slice (some ⟨w.heap.size, 0, none⟩) 1 1, [(p, q)]) :: R) := h.new_at p q rfl
theorem Sc.appA {w0 w w' : World} {ua ub v : Value} {seen next ys : List Sp} {R : List (Value × List Sp)} (h : Sc w0 w ua ub seen next R) (o : OwSpot w' w0.heap.size v (seen ++ ys)) (hg : w.grownBy w' ua.ownBlock)
    (hn : v.ownBlock = ua.ownBlock ∨ ∃ k, v.ownBlock = some k ∧ w.heap.size ≤ k) : Sc w0 w' v ub (seen ++ ys) next R := by
  refine ⟨o, h.ob.kept hg h.ab.symm.dis, (h.ab.symm.next (fun k hk => (h.ob.lt k hk).2) hn).symm, fun r hr => ?_, h.oa.grown_below h.hB (Nat.le_refl _) hg⟩
  obtain ⟨h1, h2, h3, h4⟩ := h.rd r hr
  exact ⟨h1.kept hg h2.dis, h2.next h4 hn, h3, fun k hk => Nat.lt_of_lt_of_le (h4 k hk) hg.size⟩
theorem Sc.appB {w0 w w' : World} {ua ub v : Value} {seen next ys : List Sp} {R : List (Value × List Sp)} (h : Sc w0 w ua ub seen next R) (o : OwSpot w' w0.heap.size v (next ++ ys)) (hg : w.grownBy w' ub.ownBlock)
    (hn : v.ownBlock = ub.ownBlock ∨ ∃ k, v.ownBlock = some k ∧ w.heap.size ≤ k) : Sc w0 w' ua v seen (next ++ ys) R := by
  refine ⟨h.oa.kept hg h.ab.dis, o, h.ab.next (fun k hk => (h.oa.lt k hk).2) hn, fun r hr => ?_, h.ob.grown_below h.hB (Nat.le_refl _) hg⟩
  obtain ⟨h1, h2, h3, h4⟩ := h.rd r hr
  exact ⟨h1.kept hg h3.dis, h2, h3.next h4 hn, fun k hk => Nat.lt_of_lt_of_le (h4 k hk) hg.size⟩
theorem Sc.sub {w0 w : World} {ua ub : Value} {seen next : List Sp} {R R' : List (Value × List Sp)} (h : Sc w0 w ua ub seen next R) (hs : ∀ r ∈ R', r ∈ R) : Sc w0 w ua ub seen next R' :=
  ⟨h.oa, h.ob, h.ab, fun r hr => h.rd r (hs r hr), h.hB⟩
theorem Sc.rd0 {w0 w : World} {ua ub v : Value} {seen next zs : List Sp} {R : List (Value × List Sp)} (h : Sc w0 w ua ub seen next ((v, zs) :: R)) : RdSpot w v zs := (h.rd (v, zs) (by simp)).1
theorem Sc.rd1 {w0 w : World} {ua ub v : Value} {seen next zs : List Sp} {r : Value × List Sp} {R : List (Value × List Sp)} (h : Sc w0 w ua ub seen next (r :: (v, zs) :: R)) : RdSpot w v zs := (h.rd (v, zs) (by simp)).1
theorem Sc.rd2 {w0 w : World} {ua ub v : Value} {seen next zs : List Sp} {r r' : Value × List Sp} {R : List (Value × List Sp)} (h : Sc w0 w ua ub seen next (r :: r' :: (v, zs) :: R)) : RdSpot w v zs := (h.rd (v, zs) (by simp)).1
/-- At the head of a layer. -/
structure Mn (w0 w : World) (ua un : Value) (seen now : List Sp) : Prop where
  oa : OwSpot w w0.heap.size ua seen
  on : OwSpot w w0.heap.size un now
  ab : Apart un ua
  hB : Below w0.heap.size w0 w
theorem Mn.scan {w0 w : World} {ua un : Value} {seen now : List Sp} (h : Mn w0 w ua un seen now) :
    Sc w0 (w.alloc (.cells #[] 50)) ua (.slice (some ⟨w.heap.size, 0, none⟩) 0 0) seen [] [(un, now)] := by
  have hg1 : ∀ k, (Value.slice (some ⟨w.heap.size, 0, none⟩) 0 0).ownBlock = some k → w.heap.size ≤ k := fun k hk => by
    simp [Value.ownBlock] at hk
    omega
  refine ⟨h.oa.alloc _, OwSpot.empty w _ h.hB.size, apart_lt (fun k hk => (h.oa.lt k hk).2) hg1, fun r hr => ?_, h.hB.alloc h.hB.size _⟩
  rw [List.mem_singleton] at hr
  subst hr
  exact ⟨(h.on.alloc _).rd, h.ab, apart_lt (fun k hk => (h.on.lt k hk).2) hg1, fun k hk => by
    have := (h.on.lt k hk).2
    simp
    omega⟩
theorem Sc.main {w0 w : World} {ua ub : Value} {seen next : List Sp} {R : List (Value × List Sp)} (h : Sc w0 w ua ub seen next R) : Mn w0 w ua ub seen next := ⟨h.oa, h.ob, h.ab.symm, h.hB⟩
/-- Two literals of one spot. -/
theorem Mn.start (w : World) (p q : Int) {g g' : Nat} (hg : (g = w.heap.size ∧ g' = w.heap.size + 1) ∨ (g' = w.heap.size ∧ g = w.heap.size + 1)) :
    Mn w ((w.alloc (.cells #[.int .i64 p, .int .i64 q] 50)).alloc (.cells #[.int .i64 p, .int .i64 q] 50)) (.slice (some ⟨g, 0, none⟩) 1 1) (.slice (some ⟨g', 0, none⟩) 1 1) [(p, q)] [(p, q)] := by
  have h1 : OwSpot ((w.alloc (.cells #[.int .i64 p, .int .i64 q] 50)).alloc (.cells #[.int .i64 p, .int .i64 q] 50)) w.heap.size (.slice (some ⟨w.heap.size, 0, none⟩) 1 1) [(p, q)] := by
    have h : OwSpot (w.alloc (.cells #[.int .i64 p, .int .i64 q] 50)) w.heap.size (.slice (some ⟨w.heap.size, 0, none⟩) 1 1) [(p, q)] :=
      World.ownsRow_lit (base := w.heap.size) (e := 50) (size := 2) w #[.int .i64 p, .int .i64 q] 1 (Nat.le_refl _) (by rw [maxLen_eq]; omega) rfl
    exact h.alloc _
  have h2 : OwSpot ((w.alloc (.cells #[.int .i64 p, .int .i64 q] 50)).alloc (.cells #[.int .i64 p, .int .i64 q] 50)) w.heap.size (.slice (some ⟨w.heap.size + 1, 0, none⟩) 1 1) [(p, q)] := by
    have h := World.ownsRow_lit (base := w.heap.size) (e := 50) (size := 2) (w.alloc (.cells #[.int .i64 p, .int .i64 q] 50)) #[.int .i64 p, .int .i64 q] 1 (by simp) (by rw [maxLen_eq]; omega) rfl
    rw [World.size_alloc] at h
    exact h
  have hb := below_alloc2 w (.cells #[.int .i64 p, .int .i64 q] 50) (.cells #[.int .i64 p, .int .i64 q] 50)
  rcases hg with ⟨rfl, rfl⟩ | ⟨rfl, rfl⟩
  · exact ⟨h1, h2, fun k a b => by simp [Value.ownBlock] at a b; omega, hb⟩
  · exact ⟨h2, h1, fun k a b => by simp [Value.ownBlock] at a b; omega, hb⟩
theorem Mn.drew {w0 w : World} {ua un : Value} {seen now : List Sp} (h : Mn w0 w ua un seen now) : Mn w0 w.drew ua un seen now := ⟨h.oa.drew, h.on.drew, h.ab, h.hB.drew⟩
theorem rdSpot_cell {w : World} {zs : List Sp} {g n c : Nat} (h : RdSpot w (.slice (some ⟨g, 0, none⟩) n c) zs) {i : Nat} {x0 x1 : Int} (hx : zs[i]? = some (x0, x1)) :
    w.cell? ⟨g, i * 2, none⟩ = some (.int .i64 x0) ∧ w.cell? ⟨g, i * 2 + 1, none⟩ = some (.int .i64 x1) := by
  obtain ⟨ad, cap, b, off, hv, h1, h2, h3, h4⟩ := h.open
  have hi := (List.getElem?_eq_some_iff.1 hx).1
  have ha := h3 (by omega)
  simp only [Value.slice.injEq] at hv
  rw [ha] at hv
  simp only [Option.some.injEq, Addr.mk.injEq] at hv
  obtain ⟨⟨rfl, rfl, _⟩, _, _⟩ := hv
  have h5 := h4 i hi
  have hgd : zs.getD i (0, 0) = (x0, x1) := by rw [List.getD_eq_getElem?_getD, hx]; rfl
  rw [hgd] at h5
  simpa using h5
theorem Sc.cells {w0 w : World} {ua ub : Value} {seen next : List Sp} {R : List (Value × List Sp)} {g n c : Nat} {p q : Int} (h : Sc w0 w ua ub seen next R) (hm : (Value.slice (some ⟨g, 0, none⟩) n c, [(p, q)]) ∈ R) :
    w.cell? ⟨g, 0, none⟩ = some (.int .i64 p) ∧ w.cell? ⟨g, 1, none⟩ = some (.int .i64 q) := by
  have h1 := rdSpot_cell (i := 0) (h.rd _ hm).1 rfl
  simpa using h1
end Go.Proofs.Ytcpkbohopicabaa
