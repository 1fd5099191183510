/- ReadScene: the plain law. -/
import Derived.Test.YtkkcglncjdoacaaDoorRdC
import Derived.Test.YtkkcglncjdoacaaDoorOwCD
namespace Go.Proofs.YtkkcglncjdoacaaDoor
open Go.ChangeShapes Go.WideShapes Go.ChangeAt Go.RowKit Go.Joins Go.Deep Go.Sort
set_option linter.unusedSimpArgs false
set_option linter.unusedVariables false
set_option maxRecDepth 20000

/-- The cues of some pieces; none: some piece is no cue. -/
def allC : List (List UInt8) → Option (List CueV)
  | [] => some []
  | p :: r => match rcF p with
    | some n => (allC r).map (n :: ·)
    | none => none
theorem allC_append (ps : List (List UInt8)) (p : List UInt8) : allC (ps ++ [p]) = match allC ps, rcF p with
    | some ns, some n => some (ns ++ [n])
    | _, _ => none := by
  induction ps with
  | nil => simp only [List.nil_append, allC]; cases rcF p <;> rfl
  | cons q r ih =>
    rw [List.cons_append]
    unfold allC
    cases hq : rcF q with
    | none => rfl
    | some m =>
      simp only
      rw [ih]
      cases allC r with
      | none => cases rcF p <;> rfl
      | some ns => cases rcF p <;> rfl
theorem allC_none {ps : List (List UInt8)} {p : List UInt8} (hm : p ∈ ps) (h : rcF p = none) : allC ps = none := by
  induction ps with
  | nil => simp at hm
  | cons q r ih =>
    unfold allC
    rcases List.mem_cons.1 hm with rfl | hm
    · rw [h]
    · cases rcF q with
      | none => rfl
      | some n => rw [ih hm]; rfl
theorem rcF_text {l : List UInt8} {z : CueV} (h : rcF l = some z) : cueT z = l := by
  unfold rcF at h
  split at h
  · split at h
    · rename_i h2
      cases h
      exact h2.2
    · cases h
  · cases h
theorem allC_some : ∀ {ps : List (List UInt8)} {zs : List CueV}, allC ps = some zs → zs.map cueT = ps := by
  intro ps
  induction ps with
  | nil => intro ns h; cases h; simp
  | cons p r ih =>
    intro ns h
    unfold allC at h
    cases hp : rcF p with
    | none => rw [hp] at h; cases h
    | some n =>
      rw [hp] at h
      simp only at h
      cases hr : allC r with
      | none => rw [hr] at h; cases h
      | some ms =>
        rw [hr] at h
        simp only [Option.map_some, Option.some.injEq] at h
        subst h
        rw [List.map_cons, rcF_text hp, ih hr]
/-- ReadScene: the cues of the pieces, where they are right. -/
def rsF (l : List UInt8) : Option (List CueV) := match allC (splitP 59 l) with
  | some zs => if cuesB zs = true then some zs else none
  | none => none
def rsV (l : List UInt8) : List CueV := (rsF l).getD []
def rsB (l : List UInt8) : Bool := (rsF l).isSome
theorem rs_none {l : List UInt8} (h : rsF l = none) : rsV l = [] ∧ rsB l = false := by unfold rsV rsB; rw [h]; exact ⟨rfl, rfl⟩
theorem rs_some {l : List UInt8} {z : List CueV} (h : rsF l = some z) : rsV l = z ∧ rsB l = true := by unfold rsV rsB; rw [h]; exact ⟨rfl, rfl⟩
theorem rsF_no {l : List UInt8} (h : allC (splitP 59 l) = none) : rsF l = none := by unfold rsF; rw [h]
theorem rsF_bad {l : List UInt8} {zs : List CueV} (h : allC (splitP 59 l) = some zs) (hb : cuesB zs = false) : rsF l = none := by unfold rsF; rw [h]; simp [hb]
theorem rsF_ok {l : List UInt8} {zs : List CueV} (h : allC (splitP 59 l) = some zs) (hb : cuesB zs = true) : rsF l = some zs := by unfold rsF; rw [h]; exact if_pos hb
theorem rsF_text {l : List UInt8} {zs : List CueV} (h : allC (splitP 59 l) = some zs) (hb : cuesB zs = true) : sceneL zs = l := by
  unfold sceneL
  rw [if_pos hb, allC_some h, join_split]
theorem lens_cue61 (zs : List CueV) : Lib.lens (zs.map cueT) ≤ 61 * zs.length := by
  induction zs with
  | nil => simp [Lib.lens]
  | cons z r ih =>
    have h1 : (cueT z).length ≤ 61 := cueL_len _ _ _
    simp only [List.map_cons, Lib.lens, List.sum_cons, List.length_cons] at ih ⊢
    omega
theorem rsF_long {l : List UInt8} (h : 1200 < l.length) : rsF l = none := by
  cases ha : allC (splitP 59 l) with
  | none => exact rsF_no ha
  | some zs =>
    cases hb : cuesB zs with
    | false => exact rsF_bad ha hb
    | true =>
      have ht := rsF_text ha hb
      have hl := cuesB_len hb
      unfold sceneL at ht
      rw [if_pos hb] at ht
      rw [← ht] at h
      cases zs with
      | nil => simp at hl
      | cons z r =>
        have h1 := lens_cue61 (z :: r)
        rw [List.map_cons, Lib.join_length] at h
        simp only [List.length_cons, List.length_nil, List.length_map, List.map_cons] at hl h1 h
        omega
/-- The first k pieces read as cues. -/
def AllCK (xs : List ByteArray) (k : Nat) (ns : List CueV) : Prop := allC ((xs.take k).map (·.data.toList)) = some ns
theorem AllCK.next {xs : List ByteArray} {k : Nat} {n : CueV} {ns : List CueV} {x : ByteArray} (h : AllCK xs k ns) (hx : xs[k]? = some x) (hp : rcF x.data.toList = some n) : AllCK xs (k + 1) (ns ++ [n]) := by
  unfold AllCK at h ⊢
  rw [take_str hx, List.map_append, List.map_cons, List.map_nil, allC_append, h, hp]
theorem AllCK.len {xs : List ByteArray} {k : Nat} {ns : List CueV} (h : AllCK xs k ns) : ns.length = min k xs.length := by
  have := congrArg List.length (allC_some h)
  simpa using this
theorem allc_no {xs : List ByteArray} {k : Nat} {x : ByteArray} (hx : xs[k]? = some x) (hp : rcF x.data.toList = none) : allC (xs.map (·.data.toList)) = none :=
  allC_none (List.mem_map_of_mem (List.mem_of_getElem? hx)) hp
theorem pieces_pos {s : ByteArray} {c : UInt8} {xs : List ByteArray} (h : xs.map (·.data.toList) = splitP c s.data.toList) : 0 < xs.length := by
  rcases Nat.eq_zero_or_pos xs.length with h0 | h0
  · have h2 := List.eq_nil_of_length_eq_zero h0
    rw [h2] at h
    exact absurd h.symm (splitP_ne _ _)
  · exact h0
theorem pieces_le {s : ByteArray} {c : UInt8} {xs : List ByteArray} (h : xs.map (·.data.toList) = splitP c s.data.toList) : xs.length ≤ s.size + 1 := by
  have h1 := congrArg List.length (join_split c s.data.toList)
  rw [← h, ← Lib.size_eq] at h1
  cases xs with
  | nil => simp
  | cons x t =>
    rw [List.map_cons, Lib.join_length] at h1
    simp only [List.length_cons, List.length_nil, List.length_map] at h1 ⊢
    omega
end Go.Proofs.YtkkcglncjdoacaaDoor
