/- More of the plain law of FnWages: equal shares, what is kept back, ticks of all puppets and of each. -/
import Derived.Test.YtkkcglncjdoacaaWagesL
import Derived.Test.YtkkcglncjdoacaaShareEqI
import Derived.Test.YtkkcglncjdoacaaKeepI
import Derived.Test.YtkkcglncjdoacaaFairI
import Derived.Test.YtkkcglncjdoacaaTicks
namespace Go.Proofs.Ytkkcglncjdoacaa
open Go.ChangeShapes Go.WideShapes Go.ChangeAt Go.RowKit Go.Joins
set_option linter.unusedSimpArgs false
set_option linter.unusedVariables false

theorem sumI_append (a b : List Int) : sumI (a ++ b) = sumI a + sumI b := by
  induction a with
  | nil => simp [sumI]
  | cons x r ih => rw [List.cons_append, sumI_cons, sumI_cons, ih]; omega
theorem shares_sum (s n : Int) : ∀ k : Nat, sumI (shares s n k) = s / n * k + min (k : Int) (max 0 (s % n)) := by
  intro k
  induction k with
  | zero => simp [shares, sumI]; omega
  | succ k ih =>
    rw [shares_succ, sumI_append, ih, sumI_cons, sumI_nil, shareAt]
    have e : s / n * ((k + 1 : Nat) : Int) = s / n * k + s / n := by rw [Int.natCast_add, Int.mul_add]; simp
    rw [e]
    split <;> omega
section
variable {s n : Int} (hs : 0 ≤ s ∧ s ≤ 1000000) (hn : 1 ≤ n ∧ n ≤ 20)
include hs hn
theorem equal_ok : shareEqually s n = shares s n n.toNat := if_pos (by simp only [shareEqB, inB_true.2 hs, inB_true.2 hn, Bool.and_self])
theorem equal_sum : sumI (shareEqually s n) = s := by
  rw [equal_ok hs hn, shares_sum]
  have h1 := Int.emod_nonneg s (show n ≠ 0 by omega)
  have h2 := Int.emod_lt_of_pos s (show 0 < n by omega)
  have h3 := Int.mul_ediv_add_emod s n
  have h4 := Int.mul_comm (s / n) n
  rw [Int.toNat_of_nonneg (by omega)]
  omega
theorem equal_len : ((shareEqually s n).length : Int) = n := by
  rw [equal_ok hs hn, shares_length]
  omega
theorem equal_get {k : Nat} (hk : (k : Int) < n) : (shareEqually s n).getD k 0 = if (k : Int) < s % n then s / n + 1 else s / n := by
  rw [equal_ok hs hn, shares]
  have : k < n.toNat := by omega
  simp [this, shareAt]
theorem equal_bd : ∀ z ∈ shareEqually s n, 0 ≤ z ∧ z ≤ 1000000 := by
  intro z hz
  rw [equal_ok hs hn] at hz
  simp only [shares, List.mem_map, List.mem_range] at hz
  obtain ⟨k, hk, rfl⟩ := hz
  have h0 : 0 ≤ s / n := Int.ediv_nonneg hs.1 (by omega)
  have h3 := Int.mul_ediv_add_emod s n
  have h2 := Int.emod_lt_of_pos s (show 0 < n by omega)
  have h1 := Int.emod_nonneg s (show n ≠ 0 by omega)
  have h5 : s / n ≤ n * (s / n) := by
    have := Int.mul_le_mul_of_nonneg_right (show (1 : Int) ≤ n from hn.1) h0
    omega
  simp only [shareAt]
  split
  · refine ⟨by omega, ?_⟩
    by_cases hq : s / n = 0
    · omega
    · omega
  · omega
end
theorem hiF_iff (zs : List Int) : ∀ (a m : Int), a ≤ m → (∀ z ∈ zs, z ≤ m) → (a = m ∨ m ∈ zs) → hiF zs a = m := by
  induction zs with
  | nil => intro a m h1 _ h3; simp at h3; exact h3
  | cons x r ih =>
    intro a m h1 h2 h3
    rw [hiF_cons]
    have hx := h2 x (by simp)
    refine ih _ m (by omega) (fun z hz => h2 z (by simp [hz])) ?_
    rcases h3 with h3 | h3
    · left; omega
    · rcases List.mem_cons.1 h3 with h3 | h3
      · left; omega
      · right; exact h3
theorem loF_iff (zs : List Int) : ∀ (a m : Int), m ≤ a → (∀ z ∈ zs, m ≤ z) → (a = m ∨ m ∈ zs) → loF zs a = m := by
  induction zs with
  | nil => intro a m h1 _ h3; simp at h3; exact h3
  | cons x r ih =>
    intro a m h1 h2 h3
    rw [loF_cons]
    have hx := h2 x (by simp)
    refine ih _ m (by omega) (fun z hz => h2 z (by simp [hz])) ?_
    rcases h3 with h3 | h3
    · left; omega
    · rcases List.mem_cons.1 h3 with h3 | h3
      · left; omega
      · right; exact h3
theorem equal_fair {s n : Int} (hs : 0 ≤ s ∧ s ≤ 1000000) (hn : 1 ≤ n ∧ n ≤ 20) : fairnessOf (shareEqually s n) = if 0 < s % n then 1 else 0 := by
  have hl := equal_len hs hn
  have hb := equal_bd hs hn
  have hget := fun k => equal_get hs hn (k := k)
  have hmem : ∀ k : Nat, (k : Int) < n → (shareEqually s n).getD k 0 ∈ shareEqually s n := fun k hk => by rw [getD_lt (by omega)]; exact List.getElem_mem (by omega)
  have hall : ∀ z ∈ shareEqually s n, s / n ≤ z ∧ z ≤ (if 0 < s % n then s / n + 1 else s / n) := by
    intro z hz
    rw [equal_ok hs hn] at hz
    simp only [shares, List.mem_map, List.mem_range] at hz
    obtain ⟨k, hk, rfl⟩ := hz
    simp only [shareAt]
    split <;> split <;> omega
  rw [fairB_yes (by omega) (List.all_eq_true.2 fun z hz => inB_true.2 (hb z hz))]
  have h1 := Int.emod_nonneg s (show n ≠ 0 by omega)
  have h2 := Int.emod_lt_of_pos s (show 0 < n by omega)
  have g0 := hget 0 (by omega)
  have m0 := hmem 0 (by omega)
  have gl := hget (n - 1).toNat (by omega)
  have ml := hmem (n - 1).toNat (by omega)
  rw [if_neg (by omega)] at gl
  rw [gl] at ml
  have hz0 := hall _ m0
  have hlo : loF (shareEqually s n) ((shareEqually s n).getD 0 0) = s / n := loF_iff _ _ _ hz0.1 (fun z hz => (hall z hz).1) (.inr ml)
  have hhi : hiF (shareEqually s n) ((shareEqually s n).getD 0 0) = if 0 < s % n then s / n + 1 else s / n := by
    refine hiF_iff _ _ _ hz0.2 (fun z hz => (hall z hz).2) (.inl ?_)
    rw [g0]
    rfl
  rw [hlo, hhi]
  split <;> omega
theorem fair_39 : fairnessOf [3, 9] = 6 := by decide
theorem keep_facts {s p : Int} (hs : 0 ≤ s ∧ s ≤ 1000000) (hp : 0 ≤ p ∧ p ≤ 100) : kept s p + given s p = s ∧ s * p ≤ 100 * kept s p ∧ 100 * kept s p < s * p + 100 ∧ 0 ≤ kept s p ∧ kept s p ≤ 1000001 := by
  have hk : keepsB s p = true := by simp only [keepsB, inB_true.2 hs, inB_true.2 hp, Bool.and_self]
  have h0 : 0 ≤ s * p := Int.mul_nonneg hs.1 hp.1
  have h1 : s * p ≤ 1000000 * 100 := Int.mul_le_mul hs.2 hp.2 hp.1 (by omega)
  simp only [kept, given, hk, if_true]
  omega
/-! ### Ticks -/
theorem accP_add (t : Int) (ps : List Int) (qs : List Int) : ∀ s d, accP t ps qs (s + d) = accP t ps qs s + d := by
  induction qs with
  | nil => intro s d; rfl
  | cons q r ih =>
    intro s d
    simp only [accP]
    split
    · rw [show s + d + t = s + t + d by omega, ih]
    · rw [ih]
theorem accC_add (ps : List Int) (zs : List CueV) : ∀ s d, accC ps zs (s + d) = accC ps zs s + d := by
  induction zs with
  | nil => intro s d; rfl
  | cons z r ih => intro s d; simp only [accC, accP_add, ih]
theorem accC_zero (ps : List Int) (zs : List CueV) (s : Int) : accC ps zs s = accC ps zs 0 + s := by
  have := accC_add ps zs 0 s
  rw [Int.zero_add] at this
  exact this
theorem accP_zero (t : Int) (ps qs : List Int) (s : Int) : accP t ps qs s = accP t ps qs 0 + s := by
  have := accP_add t ps qs 0 s
  rw [Int.zero_add] at this
  exact this
def all7 : List Int := [0, 1, 2, 3, 4, 5, 6]
def one7 (f : Int → Int) : Int := f 0 + f 1 + f 2 + f 3 + f 4 + f 5 + f 6
theorem accP_all (t : Int) (qs : List Int) (h : ∀ q ∈ qs, 0 ≤ q ∧ q ≤ 6) : accP t all7 qs 0 = one7 fun k => accP t [k] qs 0 := by
  induction qs with
  | nil => rfl
  | cons q r ih =>
    have hq := h q (by simp)
    have hr := ih (fun z hz => h z (by simp [hz]))
    have hone : ∀ k : Int, accP t [k] (q :: r) 0 = accP t [k] r 0 + (if k = q then t else 0) := by
      intro k
      simp only [accP, List.any_cons, List.any_nil, Bool.or_false, beq_iff_eq]
      rw [accP_zero]
      split <;> simp
    have hall : accP t all7 (q :: r) 0 = accP t all7 r 0 + t := by
      have : all7.any (· == q) = true := by
        rw [List.any_eq_true]
        refine ⟨q, ?_, by simp⟩
        have : q = 0 ∨ q = 1 ∨ q = 2 ∨ q = 3 ∨ q = 4 ∨ q = 5 ∨ q = 6 := by omega
        rcases this with rfl | rfl | rfl | rfl | rfl | rfl | rfl <;> simp [all7]
      simp only [accP, this, if_true]
      rw [accP_zero]
      omega
    rw [hall, hr]
    simp only [one7, hone]
    have : q = 0 ∨ q = 1 ∨ q = 2 ∨ q = 3 ∨ q = 4 ∨ q = 5 ∨ q = 6 := by omega
    rcases this with rfl | rfl | rfl | rfl | rfl | rfl | rfl <;> simp <;> omega
theorem accC_all (zs : List CueV) (h : ∀ z ∈ zs, ∀ q ∈ z.2.2, 0 ≤ q ∧ q ≤ 6) : accC all7 zs 0 = one7 fun k => accC [k] zs 0 := by
  induction zs with
  | nil => rfl
  | cons z r ih =>
    have h1 := accP_all z.1 z.2.2 (h z (by simp))
    have h2 := ih (fun y hy => h y (by simp [hy]))
    simp only [accC]
    rw [accC_zero, h2, h1]
    simp only [one7]
    have e := fun k => accC_zero [k] r (accP z.1 [k] z.2.2 0)
    have e0 := e 0
    have e1 := e 1
    have e2 := e 2
    have e3 := e 3
    have e4 := e 4
    have e5 := e 5
    have e6 := e 6
    omega
theorem ticks_all {zs : List CueV} (h : cuesB zs = true) : ticksF zs all7 = one7 (fun k => ticksF zs [k]) ∧ ∀ ps, 0 ≤ ticksF zs ps ∧ ticksF zs ps ≤ 4200 := by
  have hg := cues_get h
  have hc := h
  simp only [cuesB, Bool.and_eq_true] at hc
  have hm : ∀ z ∈ zs, ∀ q ∈ z.2.2, 0 ≤ q ∧ q ≤ 6 := by
    intro z hz q hq
    have := List.all_eq_true.1 hc.1.2 z hz
    simp only [cueB, risesB, Bool.and_eq_true] at this
    exact allB_mem this.2.2 q hq
  have he : ∀ ps, ticksF zs ps = accC ps zs 0 := fun ps => if_pos h
  refine ⟨?_, fun ps => ?_⟩
  · simp only [he]
    exact accC_all zs hm
  · rw [he]
    have hbd : ∀ (l : List CueV) (s : Int), (∀ z ∈ l, (1 ≤ z.1 ∧ z.1 ≤ 50) ∧ z.2.2.length ≤ 7) → s ≤ accC ps l s ∧ accC ps l s ≤ s + 350 * l.length := by
      intro l
      induction l with
      | nil => intro s _; simp [accC]
      | cons z r ih =>
        intro s hl
        have h1 := hl z (by simp)
        have h2 := accP_bd z.1 (by omega) ps z.2.2 s
        have h3 := ih (accP z.1 ps z.2.2 s) (fun y hy => hl y (by simp [hy]))
        simp only [accC, List.length_cons]
        omega
    have := hbd zs 0 hg.2
    omega
/-! ### Cues of which each waits for earlier ones alone -/
def EarlyR (R : Mx) : Prop := ∀ a b, R a b = true → b < a
theorem early_row {m i : Nat} {R : Mx} (h : EarlyR R) : EarlyR (rowStep m i R) := by
  intro a b hab
  simp only [rowStep] at hab
  split at hab
  · rename_i ha
    simp only [Bool.or_eq_true, Bool.and_eq_true] at hab
    rcases hab with h1 | h1
    · exact h a b h1
    · have h2 := h a m h1.1
      have h3 := h m b h1.2
      omega
  · exact h a b hab
theorem early_I (m : Nat) : ∀ (c i : Nat) (R : Mx), EarlyR R → EarlyR (loopI m R i c) := by
  intro c
  induction c with
  | zero => intro i R h; exact h
  | succ c ih => intro i R h; exact ih _ _ (early_row h)
theorem early_M (n : Nat) : ∀ (c m : Nat) (R : Mx), EarlyR R → EarlyR (loopM n R m c) := by
  intro c
  induction c with
  | zero => intro m R h; exact h
  | succ c ih => intro m R h; exact ih _ _ (early_I m n 0 R h)
theorem circL_none (R : Mx) (h : EarlyR R) : ∀ c i, circL R i c = [] := by
  intro c
  induction c with
  | zero => intro i; rfl
  | succ c ih =>
    intro i
    rw [circL, ih, if_neg (fun e => by have := h i i e; omega)]
    rfl
/-- Drawn cues. -/
def Drawn (zs : List CueV) : Prop := zs.length ≤ 7 ∧ ∀ (k : Nat) (z : CueV), zs[k]? = some z → (1 ≤ z.1 ∧ z.1 ≤ 9) ∧ risesB z.2.1 0 ((k : Int) - 1) = true ∧ risesB z.2.2 0 6 = true
theorem Drawn.ok {zs : List CueV} (h : Drawn zs) (h1 : 1 ≤ zs.length) : cuesB zs = true := by
  obtain ⟨hl, hd⟩ := h
  simp only [cuesB, Bool.and_eq_true]
  refine ⟨⟨inB_true.2 (by omega), List.all_eq_true.2 fun z hz => ?_⟩, ?_⟩
  · obtain ⟨k, hk⟩ := List.getElem?_of_mem hz
    obtain ⟨ht, ha, hp⟩ := hd k z hk
    have hkl := (List.getElem?_eq_some_iff.1 hk).1
    simp only [cueB, Bool.and_eq_true]
    refine ⟨⟨inB_true.2 (by omega), ?_⟩, hp⟩
    simp only [risesB, Bool.and_eq_true] at ha ⊢
    refine ⟨ha.1, List.all_eq_true.2 fun x hx => inB_true.2 ?_⟩
    have := allB_mem ha.2 x hx
    omega
  · have he : EarlyR (R0 zs) := by
      intro a b hab
      simp only [R0] at hab
      split at hab
      · rename_i z hz
        obtain ⟨x, hx, hxb⟩ := List.any_eq_true.1 hab
        obtain ⟨_, ha, _⟩ := hd a z hz
        simp only [risesB, Bool.and_eq_true] at ha
        have := allB_mem ha.2 x hx
        have hxe : x = (b : Int) := by simpa using hxb
        omega
      · simp at hab
    rw [circF, waitsF, circL_none _ (early_M _ _ _ _ he)]
    rfl
end Go.Proofs.Ytkkcglncjdoacaa
