/- Bodies as lists: what both tests of a body say, poses (plain law). -/
import Derived.Test.YtfedhjfijcnpdaaTree
namespace Go.Proofs.Ytfedhjfijcnpdaa
open Tr
set_option linter.unusedVariables false
abbrev LimbV := Int × Int × Int
def edgeOf (l : LimbV) : TEdge := (l.1.toNat, l.2.1.toNat, l.2.2)
def edges (zs : List LimbV) : List TEdge := zs.map edgeOf
def limbB (J : Int) (l : LimbV) : Bool := inB l.1 0 (J - 1) && (inB l.2.1 0 (J - 1) && inB l.2.2 1 100)
theorem limbB_iff {J : Int} {l : LimbV} : limbB J l = true ↔ (0 ≤ l.1 ∧ l.1 ≤ J - 1) ∧ (0 ≤ l.2.1 ∧ l.2.1 ≤ J - 1) ∧ 1 ≤ l.2.2 ∧ l.2.2 ≤ 100 := by simp [limbB, inB_true]
def bodyB (J : Int) (zs : List LimbV) : Bool := inB J 1 12 && (decide ((zs.length : Int) = J - 1) && (zs.all (limbB J) && allJ (fun v => v) (edges zs)))
theorem allJ_append (E F : List TEdge) : ∀ P, allJ P (E ++ F) = (allJ P E && allJ (mgE P E) F) := by
  induction E with
  | nil => intro P; simp [allJ, mgE]
  | cons e r ih => intro P; rw [List.cons_append, allJ, ih, allJ, mgE, Bool.and_assoc]
theorem mgE_snoc (E : List TEdge) (e : TEdge) : ∀ P, mgE P (E ++ [e]) = mgP (mgE P E) e.1 e.2.1 := by
  induction E with
  | nil => intro P; rfl
  | cons x r ih => intro P; rw [List.cons_append, mgE, ih, mgE]
theorem allJ_loop {E : List TEdge} {e : TEdge} (he : e ∈ E) (h : e.1 = e.2.1) : ∀ P, allJ P E = false := by
  induction E with
  | nil => simp at he
  | cons x r ih =>
    intro P
    rcases List.mem_cons.1 he with rfl | he
    · rw [allJ, h]; simp
    · rw [allJ, ih he]; simp
theorem edges_take {zs : List LimbV} {k : Nat} {z : LimbV} (h : zs[k]? = some z) : edges (zs.take (k + 1)) = edges (zs.take k) ++ [edgeOf z] := by
  unfold edges
  rw [List.take_add_one, h]
  simp
/-- Lists of the numbers f 0 .. f (N - 1). -/
def rl (N : Nat) (f : Nat → Int) : List Int := (List.range N).map f
theorem rl_len (N : Nat) (f : Nat → Int) : (rl N f).length = N := by simp [rl]
theorem rl_get {N : Nat} (f : Nat → Int) {j : Nat} (h : j < N) : (rl N f)[j]? = some (f j) := by
  unfold rl
  rw [List.getElem?_map, List.getElem?_range h]
  rfl
theorem rl_getD {N : Nat} (f : Nat → Int) {j : Nat} (h : j < N) (z : Int) : (rl N f).getD j z = f j := by rw [List.getD_eq_getElem?_getD, rl_get f h]; rfl
theorem rl_congr {N : Nat} {f g : Nat → Int} (h : ∀ v, v < N → f v = g v) : rl N f = rl N g := List.map_congr_left fun v hv => h v (List.mem_range.1 hv)
theorem rl_inj {N : Nat} {f g : Nat → Int} (h : rl N f = rl N g) {v : Nat} (hv : v < N) : f v = g v := by
  have h1 := rl_get f hv
  rw [h, rl_get g hv] at h1
  simpa using h1.symm
theorem rl_set {N : Nat} (f : Nat → Int) (b : Nat) (x : Int) : (rl N f).set b x = rl N (upd f b x) := by
  apply List.ext_getElem?
  intro j
  rw [List.getElem?_set]
  by_cases hj : j < N
  · rw [rl_get _ hj, rl_get _ hj]
    by_cases e : b = j
    · subst e
      rw [if_pos rfl, if_pos (by rw [rl_len]; exact hj), upd_self]
    · rw [if_neg e, upd_ne (fun h => e h.symm)]
  · rw [List.getElem?_eq_none (by rw [rl_len]; omega), List.getElem?_eq_none (by rw [rl_len]; omega)]
    split
    · rw [if_neg (by rw [rl_len]; omega)]
    · rfl
theorem rl_succ (N : Nat) (f : Nat → Int) : rl (N + 1) f = rl N f ++ [f N] := by simp [rl, List.range_succ]
/-! The test of the reference: joints merged. -/
structure BodyK (J : Int) (zs : List LimbV) (k : Nat) (P : Nat → Nat) : Prop where
  st : P = mgE (fun v => v) (edges (zs.take k))
  ok : ∀ z ∈ zs.take k, limbB J z = true
  jn : allJ (fun v => v) (edges (zs.take k)) = true
theorem BodyK.nil (J : Int) (zs : List LimbV) : BodyK J zs 0 (fun v => v) := ⟨rfl, by simp, rfl⟩
theorem mem_take_succ {α : Type} {zs : List α} {k : Nat} {x z : α} (hz : zs[k]? = some z) (h : x ∈ zs.take (k + 1)) : x ∈ zs.take k ∨ x = z := by
  rw [List.take_add_one, hz] at h
  simpa using h
theorem BodyK.next {J : Int} {zs : List LimbV} {k : Nat} {P : Nat → Nat} (h : BodyK J zs k P) {z : LimbV} (hz : zs[k]? = some z) (hb : limbB J z = true) (hn : P z.1.toNat ≠ P z.2.1.toNat) : BodyK J zs (k + 1) (mgP P z.1.toNat z.2.1.toNat) := by
  refine ⟨?_, fun x hx => ?_, ?_⟩
  · rw [edges_take hz, mgE_snoc, ← h.st]; rfl
  · rcases mem_take_succ hz hx with hx | rfl
    · exact h.ok x hx
    · exact hb
  · rw [edges_take hz, allJ_append, h.jn, ← h.st]
    show (true && (decide (P z.1.toNat ≠ P z.2.1.toNat) && true)) = true
    rw [decide_eq_true hn]
    rfl
theorem BodyK.bad {J : Int} {zs : List LimbV} {k : Nat} {P : Nat → Nat} (h : BodyK J zs k P) {z : LimbV} (hz : zs[k]? = some z) (hn : P z.1.toNat = P z.2.1.toNat) : bodyB J zs = false := by
  have h1 : allJ (fun v => v) (edges zs) = false := by
    have e : edges zs = edges (zs.take (k + 1)) ++ edges (zs.drop (k + 1)) := by
      unfold edges
      rw [← List.map_append, List.take_append_drop]
    rw [e, edges_take hz, allJ_append, allJ_append, h.jn, ← h.st]
    simp [allJ, edgeOf, hn]
  unfold bodyB
  rw [h1]
  simp
theorem body_limb {J : Int} {zs : List LimbV} {z : LimbV} (hz : z ∈ zs) (hb : limbB J z = false) : bodyB J zs = false := by
  have h1 : zs.all (limbB J) = false := by
    rw [List.all_eq_false]
    exact ⟨z, hz, by simp [hb]⟩
  unfold bodyB
  rw [h1]
  simp
theorem BodyK.full {J : Int} {zs : List LimbV} {P : Nat → Nat} (h : BodyK J zs zs.length P) (h1 : inB J 1 12 = true) (h2 : (zs.length : Int) = J - 1) : bodyB J zs = true := by
  have hj := h.jn
  have ho := h.ok
  rw [List.take_length] at hj ho
  unfold bodyB
  rw [h1, hj, List.all_eq_true.2 ho, decide_eq_true h2]
  rfl
theorem BodyK.lt {J : Int} {zs : List LimbV} {k : Nat} {P : Nat → Nat} (h : BodyK J zs k P) {N : Nat} (hN : J = N) : ∀ v, v < N → P v < N := by
  have hk : Ok N (edges (zs.take k)) := by
    intro e he
    obtain ⟨z, hz, rfl⟩ := List.mem_map.1 he
    have := limbB_iff.1 (h.ok z hz)
    unfold edgeOf
    dsimp only
    omega
  have := (mgE_part hk (Part.nil N)).1.lt
  rw [← h.st] at this
  exact this
/-- While the parts of a limb are merged: the joints below i are done. -/
def mgU (P : Nat → Nat) (a b i : Nat) (v : Nat) : Nat := if v < i ∧ P v = P b then P a else P v
theorem mgU_zero (P : Nat → Nat) (a b : Nat) : mgU P a b 0 = P := by funext v; simp [mgU]
theorem mgU_end {N : Nat} (P : Nat → Nat) (a b : Nat) : rl N (fun v => (mgU P a b N v : Int)) = rl N (fun v => (mgP P a b v : Int)) := rl_congr fun v hv => by simp [mgU, mgP, hv]
theorem mgU_hit {N : Nat} {P : Nat → Nat} {a b i : Nat} (h : P i = P b) : rl N (upd (fun v => (mgU P a b i v : Int)) i (P a : Int)) = rl N (fun v => (mgU P a b (i + 1) v : Int)) := rl_congr fun v hv => by
  by_cases e : v = i
  · subst e; simp [mgU, h, upd]
  · rw [upd_ne e]
    have : (v < i + 1) = (v < i) := by simp; omega
    simp [mgU, this]
theorem mgU_miss {N : Nat} {P : Nat → Nat} {a b i : Nat} (h : P i ≠ P b) : rl N (fun v => (mgU P a b i v : Int)) = rl N (fun v => (mgU P a b (i + 1) v : Int)) := rl_congr fun v hv => by
  by_cases e : v = i
  · subst e; simp [mgU, h]
  · have : (v < i + 1) = (v < i) := by simp; omega
    simp [mgU, this]
theorem mgU_at (P : Nat → Nat) (a b i : Nat) : mgU P a b i i = P i := by simp [mgU]
/-! What is so of a body. -/
theorem body_open {J : Int} {zs : List LimbV} (h : bodyB J zs = true) : (1 ≤ J ∧ J ≤ 12) ∧ (zs.length : Int) = J - 1 ∧ (∀ z ∈ zs, limbB J z = true) ∧ allJ (fun v => v) (edges zs) = true := by
  unfold bodyB at h
  simp only [Bool.and_eq_true, decide_eq_true_eq] at h
  exact ⟨inB_true.1 h.1, h.2.1, List.all_eq_true.1 h.2.2.1, h.2.2.2⟩
theorem ok_edges {N : Nat} {zs : List LimbV} (h : ∀ z ∈ zs, limbB (N : Int) z = true) : Ok N (edges zs) := by
  intro e he
  obtain ⟨z, hz, rfl⟩ := List.mem_map.1 he
  have := limbB_iff.1 (h z hz)
  unfold edgeOf
  dsimp only
  omega
theorem body_tree {J : Int} {zs : List LimbV} (h : bodyB J zs = true) : ∃ N : Nat, J = N ∧ 1 ≤ N ∧ N ≤ 12 ∧ ∃ d, Tree N (edges zs) d := by
  obtain ⟨h1, h2, h3, h4⟩ := body_open h
  obtain ⟨N, rfl⟩ : ∃ N : Nat, J = N := ⟨J.toNat, by omega⟩
  exact ⟨N, rfl, by omega, by omega, tree_of (ok_edges h3) (by simp [edges]; omega) h4⟩
/-- Limbs tested one by one by the program. -/
def limbI (J : Int) (l : LimbV) : Bool := limbB J l && decide (l.1 ≠ l.2.1)
theorem body_limbI {J : Int} {zs : List LimbV} {z : LimbV} (hz : z ∈ zs) (hb : limbI J z = false) : bodyB J zs = false := by
  cases h : limbB J z with
  | false => exact body_limb hz h
  | true =>
    have he : z.1 = z.2.1 := by simpa [limbI, h] using hb
    have h1 : allJ (fun v => v) (edges zs) = false := allJ_loop (e := edgeOf z) (List.mem_map.2 ⟨z, hz, rfl⟩) (by simp [edgeOf, he]) _
    unfold bodyB
    rw [h1]
    simp
theorem body_fill {N : Nat} {zs : List LimbV} (h1 : 1 ≤ N ∧ N ≤ 12) (h2 : (zs.length : Int) = (N : Int) - 1) (h3 : ∀ z ∈ zs, limbB (N : Int) z = true) : bodyB N zs = !((rl N (fill N (edges zs) 0)).any fun x => decide (x = -1)) := by
  have hk := ok_edges h3
  have hl : (edges zs).length + 1 = N := by simp [edges]; omega
  have hin : inB (N : Int) 1 12 = true := inB_true.2 (by omega)
  have hb : bodyB N zs = allJ (fun v => v) (edges zs) := by
    unfold bodyB
    rw [hin, decide_eq_true h2, List.all_eq_true.2 h3]
    rfl
  rw [hb]
  cases hj : allJ (fun v => v) (edges zs) with
  | true =>
    obtain ⟨d, ht⟩ := tree_of hk hl hj
    have : ((rl N (fill N (edges zs) 0)).any fun x => decide (x = -1)) = false := by
      rw [List.any_eq_false]
      intro x hx
      obtain ⟨v, hv, rfl⟩ := List.mem_map.1 hx
      have hv := List.mem_range.1 hv
      have h5 := ht.fill 0 v (by omega) hv
      have h6 := ht.le 0 v (by omega) hv
      simp only [decide_eq_true_eq]
      omega
    rw [this]
    rfl
  | false =>
    obtain ⟨v, hv, he⟩ := not_tree hk hl hj
    have : ((rl N (fill N (edges zs) 0)).any fun x => decide (x = -1)) = true := List.any_eq_true.2 ⟨_, List.mem_map.2 ⟨v, List.mem_range.2 hv, rfl⟩, by simp [he]⟩
    rw [this]
    rfl
/-- The distances after r rounds and k limbs. -/
def fillK (zs : List LimbV) (i r k : Nat) : Nat → Int := (edges (zs.take k)).foldl fs (fillR (edges zs) (fill0 i) r)
theorem fillK_zero (zs : List LimbV) (i : Nat) : fillK zs i 0 0 = fill0 i := rfl
theorem fillK_next {zs : List LimbV} {i r k : Nat} {z : LimbV} (hz : zs[k]? = some z) : fillK zs i r (k + 1) = fs (fillK zs i r k) (edgeOf z) := by
  unfold fillK
  rw [edges_take hz, List.foldl_append]
  rfl
theorem fillK_round (zs : List LimbV) (i r : Nat) : fillK zs i r zs.length = fillK zs i (r + 1) 0 := by
  unfold fillK
  rw [List.take_length]
  rfl
theorem fillK_end (N : Nat) (zs : List LimbV) (i : Nat) : fillK zs i N 0 = fill N (edges zs) i := rfl
theorem fillK_fil {N : Nat} {zs : List LimbV} (h3 : ∀ z ∈ zs, limbB (N : Int) z = true) {i : Nat} (hi : i < N) (r k : Nat) : Fil N (fillK zs i r k) :=
  (Fil.fillR hi (ok_edges h3) r).fold (ok_edges fun z hz => h3 z (List.mem_of_mem_take hz))
/-! Poses. -/
def hp (d : Nat → Nat → Int) (p : Nat → Int) : Nat → Nat → Int
  | 0, _ => -2000
  | m + 1, j => if p m < 0 then hp d p m j else max (hp d p m j) (p m - d m j)
def pf (ps : List Int) (i : Nat) : Int := ps.getD i (-1)
def strN (ps : List Int) : Nat := ps.countP fun p => decide (0 ≤ p)
def pullsB (J : Int) (zs : List LimbV) (ps : List Int) : Bool := bodyB J zs && (decide ((ps.length : Int) = J) && (ps.all (fun p => inB p (-1) 500) && decide (0 < strN ps)))
def poseL (J : Int) (zs : List LimbV) (ps : List Int) : List Int := rl J.toNat (hp (fill J.toNat (edges zs)) (pf ps) J.toNat)
def distL (J : Int) (zs : List LimbV) (i : Nat) : List Int := rl J.toNat (fill J.toNat (edges zs) i)
theorem pulls_open {J : Int} {zs : List LimbV} {ps : List Int} (h : pullsB J zs ps = true) : bodyB J zs = true ∧ (ps.length : Int) = J ∧ (∀ p ∈ ps, -1 ≤ p ∧ p ≤ 500) ∧ 0 < strN ps := by
  unfold pullsB at h
  simp only [Bool.and_eq_true, decide_eq_true_eq] at h
  exact ⟨h.1, h.2.1, fun p hp => inB_true.1 (List.all_eq_true.1 h.2.2.1 p hp), h.2.2.2⟩
end Go.Proofs.Ytfedhjfijcnpdaa
