/- Ways through a tree (plain law). -/
import Derived.Test.YtfedhjfijcnpdaaTreeL
namespace Go.Proofs.Ytfedhjfijcnpdaa
open Tr
set_option linter.unusedVariables false
/-- A way to the joint j, each step along a limb and nearer. -/
inductive Way (E : List TEdge) (d : Nat → Nat → Int) (j : Nat) : List Nat → Prop
  | last : Way E d j [j]
  | step {i u : Nat} {r : List Nat} {L : Int} : Adj E i u L → d j i = d j u + L → Way E d j (u :: r) → Way E d j (i :: u :: r)
def nats (l : List Nat) : List Int := l.map fun n : Nat => (n : Int)
theorem nats_len (l : List Nat) : (nats l).length = l.length := by simp [nats]
theorem nats_get {l : List Nat} {k x : Nat} (h : l[k]? = some x) : (nats l)[k]? = some (x : Int) := by simp [nats, h]
section
variable {N : Nat} {E : List TEdge} {d : Nat → Nat → Int} {j : Nat}
theorem Way.len (ht : Tree N E d) (hj : j < N) {l : List Nat} (h : Way E d j l) : ∀ i r, l = i :: r → i < N ∧ (l.length : Int) ≤ d j i + 1 := by
  induction h with
  | last => intro i r e; cases e; have := ht.self j; exact ⟨hj, by simp; omega⟩
  | step hA he _ ih =>
    rename_i i u r L _
    intro i' r' e
    cases e
    obtain ⟨h1, h2⟩ := ih u r rfl
    have hr := hA.rng (fun e he => ⟨(ht.ok e he).1, (ht.ok e he).2.1⟩)
    have hL : 1 ≤ L := by
      rcases hA with hA | hA
      · exact (ht.ok _ hA).2.2.1
      · exact (ht.ok _ hA).2.2.1
    exact ⟨hr.1, by simp only [List.length_cons] at h2 ⊢; omega⟩
theorem Way.next {l : List Nat} (h : Way E d j l) : ∀ k x y, l[k]? = some x → l[k + 1]? = some y → ∃ L, Adj E x y L ∧ d j x = d j y + L := by
  induction h with
  | last => intro k x y _ h2; simp at h2
  | step hA he _ ih =>
    intro k x y h1 h2
    cases k with
    | zero =>
      simp at h1 h2
      subst h1
      subst h2
      exact ⟨_, hA, he⟩
    | succ k => exact ih k x y (by simpa using h1) (by simpa using h2)
theorem Way.fin {l : List Nat} (h : Way E d j l) : ∀ k x, k + 1 = l.length → l[k]? = some x → x = j := by
  induction h with
  | last => intro k x h1 h2; simp at h1; subst h1; simpa using h2.symm
  | step hA he hw ih =>
    rename_i i u r L
    intro k x h1 h2
    cases k with
    | zero => simp at h1
    | succ k => exact ih k x (by simpa using h1) (by simpa using h2)
end
/-- The limbs below k are no way from i to its parent. -/
theorem adj_take {zs : List LimbV} {k : Nat} {z : LimbV} (hz : zs[k]? = some z) {v u : Nat} {L : Int} : Adj (edges (zs.take (k + 1))) v u L ↔ Adj (edges (zs.take k)) v u L ∨ (v = z.1.toNat ∧ u = z.2.1.toNat ∧ L = z.2.2) ∨ (v = z.2.1.toNat ∧ u = z.1.toNat ∧ L = z.2.2) := by
  rw [edges_take hz]
  exact Adj.app
theorem adj_at {zs : List LimbV} {k : Nat} {z : LimbV} (hz : zs[k]? = some z) : Adj (edges zs) z.1.toNat z.2.1.toNat z.2.2 := .inl (List.mem_map.2 ⟨z, List.mem_of_getElem? hz, rfl⟩)
/-- The limb between two joints has this length. -/
theorem adj_len {N : Nat} {zs : List LimbV} {d : Nat → Nat → Int} (ht : Tree N (edges zs) d) {j x y : Nat} (hj : j < N) {L M : Int} (h1 : Adj (edges zs) x y L) (he : d j x = d j y + L) (h2 : Adj (edges zs) x y M) : M = L := by
  have p1 : ∀ {v u : Nat} {L : Int}, Adj (edges zs) v u L → 1 ≤ L := fun hA => by
    rcases hA with hA | hA
    · exact (ht.ok _ hA).2.2.1
    · exact (ht.ok _ hA).2.2.1
  have := p1 h1
  have := p1 h2
  rcases ht.orient j x y M hj h2 with e | e <;> omega
theorem limb_ne {N : Nat} {zs : List LimbV} {d : Nat → Nat → Int} (ht : Tree N (edges zs) d) {v u : Nat} {L : Int} (h : Adj (edges zs) v u L) : v ≠ u := by
  have hr := h.rng (fun e he => ⟨(ht.ok e he).1, (ht.ok e he).2.1⟩)
  rintro rfl
  have hL : 1 ≤ L := by
    rcases h with h | h
    · exact (ht.ok _ h).2.2.1
    · exact (ht.ok _ h).2.2.1
  rcases ht.orient v v v L hr.1 h with e | e <;> omega
/-- From a joint whose parent it came from a walk only goes away. -/
def Away (E : List TEdge) (d : Nat → Nat → Int) (j i : Nat) (f : Int) : Prop := ∃ p : Nat, f = p ∧ ∃ L, Adj E i p L ∧ d j i = d j p + L
theorem Away.next {N : Nat} {zs : List LimbV} {d : Nat → Nat → Int} (ht : Tree N (edges zs) d) {j i y : Nat} {f L : Int} (hj : j < N) (h : Away (edges zs) d j i f) (hA : Adj (edges zs) i y L) (hy : (y : Int) ≠ f) : Away (edges zs) d j y i ∧ d j y = d j i + L := by
  obtain ⟨p, rfl, M, hM, he⟩ := h
  rcases ht.orient j i y L hj hA with e | e
  · exact ⟨⟨i, rfl, L, hA.symm, e⟩, e⟩
  · exact absurd (congrArg Int.ofNat (ht.uniq j i y p L M hj hA hM e he)) hy
/-- It did not come from its parent. -/
def Tow (E : List TEdge) (d : Nat → Nat → Int) (j i : Nat) (f : Int) : Prop := ∀ p : Nat, f = p → ∀ L, Adj E i p L → d j i ≠ d j p + L
theorem Tow.up {N : Nat} {zs : List LimbV} {d : Nat → Nat → Int} (ht : Tree N (edges zs) d) {j i y : Nat} {L : Int} (hA : Adj (edges zs) i y L) (he : d j i = d j y + L) : Tow (edges zs) d j y i := by
  intro p hp M hM e2
  obtain rfl : p = i := by omega
  have p1 : ∀ {v u : Nat} {L : Int}, Adj (edges zs) v u L → 1 ≤ L := fun hA => by
    rcases hA with hA | hA
    · exact (ht.ok _ hA).2.2.1
    · exact (ht.ok _ hA).2.2.1
  have := p1 hA
  have := p1 hM
  omega
theorem Tow.down {N : Nat} {zs : List LimbV} {d : Nat → Nat → Int} (ht : Tree N (edges zs) d) {j i y : Nat} {L : Int} (hj : j < N) (hA : Adj (edges zs) i y L) (he : d j i ≠ d j y + L) : Away (edges zs) d j y i := by
  rcases ht.orient j i y L hj hA with e | e
  · exact ⟨i, rfl, L, hA.symm, e⟩
  · exact absurd e he
end Go.Proofs.Ytfedhjfijcnpdaa
