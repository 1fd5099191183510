/- Drawn cues (the last part of WagesM, for the seat without wages). -/
import Derived.Test.YtkkcglncjdoacaaDoorCuesOk
namespace Go.Proofs.YtkkcglncjdoacaaDoor
open Go.ChangeShapes Go.WideShapes Go.ChangeAt Go.RowKit Go.Joins
set_option linter.unusedSimpArgs false
set_option linter.unusedVariables false
set_option maxRecDepth 20000

/-! ### Cues of which each waits for earlier ones alone -/
def EarlyR (R : Mx) : Prop := ∀ a b, R a b = true → b < a
theorem early_row {m i : Nat} {R : Mx} (h : EarlyR R) : EarlyR (rowStep m i R) := by
  intro a b hab
  simp only [rowStep] at hab
  split at hab
  · rename_i ha
    simp only [Bool.or_eq_true, Bool.and_eq_true] at hab
    rcases hab with h1 | h1
    · exact h a b h1
    · have h2 := h a m h1.1
      have h3 := h m b h1.2
      omega
  · exact h a b hab
theorem early_I (m : Nat) : ∀ (c i : Nat) (R : Mx), EarlyR R → EarlyR (loopI m R i c) := by
  intro c
  induction c with
  | zero => intro i R h; exact h
  | succ c ih => intro i R h; exact ih _ _ (early_row h)
theorem early_M (n : Nat) : ∀ (c m : Nat) (R : Mx), EarlyR R → EarlyR (loopM n R m c) := by
  intro c
  induction c with
  | zero => intro m R h; exact h
  | succ c ih => intro m R h; exact ih _ _ (early_I m n 0 R h)
theorem circL_none (R : Mx) (h : EarlyR R) : ∀ c i, circL R i c = [] := by
  intro c
  induction c with
  | zero => intro i; rfl
  | succ c ih =>
    intro i
    rw [circL, ih, if_neg (fun e => by have := h i i e; omega)]
    rfl
/-- Drawn cues. -/
def Drawn (zs : List CueV) : Prop := zs.length ≤ 7 ∧ ∀ (k : Nat) (z : CueV), zs[k]? = some z → (1 ≤ z.1 ∧ z.1 ≤ 9) ∧ risesB z.2.1 0 ((k : Int) - 1) = true ∧ risesB z.2.2 0 6 = true
theorem Drawn.ok {zs : List CueV} (h : Drawn zs) (h1 : 1 ≤ zs.length) : cuesB zs = true := by
  obtain ⟨hl, hd⟩ := h
  simp only [cuesB, Bool.and_eq_true]
  refine ⟨⟨inB_true.2 (by omega), List.all_eq_true.2 fun z hz => ?_⟩, ?_⟩
  · obtain ⟨k, hk⟩ := List.getElem?_of_mem hz
    obtain ⟨ht, ha, hp⟩ := hd k z hk
    have hkl := (List.getElem?_eq_some_iff.1 hk).1
    simp only [cueB, Bool.and_eq_true]
    refine ⟨⟨inB_true.2 (by omega), ?_⟩, hp⟩
    simp only [risesB, Bool.and_eq_true] at ha ⊢
    refine ⟨ha.1, List.all_eq_true.2 fun x hx => inB_true.2 ?_⟩
    have := allB_mem ha.2 x hx
    omega
  · have he : EarlyR (R0 zs) := by
      intro a b hab
      simp only [R0] at hab
      split at hab
      · rename_i z hz
        obtain ⟨x, hx, hxb⟩ := List.any_eq_true.1 hab
        obtain ⟨_, ha, _⟩ := hd a z hz
        simp only [risesB, Bool.and_eq_true] at ha
        have := allB_mem ha.2 x hx
        have hxe : x = (b : Int) := by simpa using hxb
        omega
      · simp at hab
    rw [circF, waitsF, circL_none _ (early_M _ _ _ _ he)]
    rfl
end Go.Proofs.YtkkcglncjdoacaaDoor
