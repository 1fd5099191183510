/- The plain law of FnPrompts: cues and scenes come back from their texts. -/
import Derived.Test.YtkkcglncjdoacaaDoorRdSP
import Derived.Test.YtkkcglncjdoacaaDoorDrawn
namespace Go.Proofs.YtkkcglncjdoacaaDoor
open Go.ChangeShapes Go.WideShapes Go.ChangeAt Go.RowKit Go.Joins Go.Deep Go.Sort
set_option linter.unusedSimpArgs false
set_option linter.unusedVariables false
set_option maxRecDepth 20000

theorem decFrom_snoc (l : List UInt8) (b : UInt8) (acc m d : Nat) (h : Lib.decFrom acc l = some m) (hd : Lib.digitVal b = some d) : Lib.decFrom acc (l ++ [b]) = some (m * 10 + d) := by
  have := Lib.decFrom_take (l ++ [b]) l.length acc m b d (by simpa using h) (by simp) hd
  rw [List.take_of_length_le (by simp)] at this
  exact this
theorem digit_of {d : Nat} (h : d ≤ 9) : Lib.digitVal (UInt8.ofNat (48 + d)) = some d := by
  have hn : (UInt8.ofNat (48 + d)).toNat = 48 + d := by rw [UInt8.toNat_ofNat']; omega
  unfold Lib.digitVal
  rw [hn, if_pos (by omega)]
  congr 1
  omega
theorem dec_digits : ∀ (n : Nat), Lib.decFrom 0 (Lib.decDigits n) = some n := by
  intro n
  induction n using Nat.strongRecOn with
  | ind n ih =>
    rw [Lib.decDigits]
    split
    · rename_i h
      rw [Lib.decFrom, digit_of (by omega)]
      simp only [Lib.decFrom]
      congr 1
      omega
    · rename_i h
      rw [decFrom_snoc _ _ _ (n / 10) (n % 10) (ih (n / 10) (by omega)) (digit_of (by omega))]
      congr 1
      omega
theorem puF_itoa {z : Int} (h0 : 0 ≤ z) (h : z ≤ 99) : puF (Lib.itoa z) = some z.toNat := by
  obtain ⟨n, rfl⟩ : ∃ n : Nat, z = n := ⟨z.toNat, by omega⟩
  rw [Lib.itoa_nonneg]
  exact puF_of (by have := digits_two (n := n) (by omega); omega) (dec_digits n) (by omega) rfl
theorem itoa_dig {z : Int} (h0 : 0 ≤ z) : ∀ b ∈ Lib.itoa z, 48 ≤ b.toNat ∧ b.toNat ≤ 57 := by
  obtain ⟨n, rfl⟩ : ∃ n : Nat, z = n := ⟨z.toNat, by omega⟩
  rw [Lib.itoa_nonneg]
  exact digits_dig n
theorem itoa_ne (z : Int) : Lib.itoa z ≠ [] := by
  unfold Lib.itoa
  split
  · simp
  · exact digits_ne _
theorem joinTail_cons (c : UInt8) (y : List UInt8) (r : List (List UInt8)) : Lib.joinTail [c] (y :: r) = c :: (y ++ Lib.joinTail [c] r) := by simp [Lib.joinTail]
theorem split_join {c : UInt8} {ps : List (List UInt8)} (hne : ps ≠ []) (h : ∀ p ∈ ps, ∀ b ∈ p, b ≠ c) : splitP c (Lib.join ps [c]) = ps := by
  cases ps with
  | nil => exact absurd rfl hne
  | cons x r =>
    rw [Lib.join_cons]
    clear hne
    induction r generalizing x with
    | nil =>
      rw [show Lib.joinTail [c] [] = [] from rfl, List.append_nil]
      exact splitP_none (h x (by simp))
    | cons y t ih =>
      rw [joinTail_cons, splitP_hit (h x (by simp)), ih y fun p hp => h p (by simp only [List.mem_cons] at hp ⊢; exact .inr hp)]
theorem mem_join {c : UInt8} {b : UInt8} : ∀ {ps : List (List UInt8)}, b ∈ Lib.join ps [c] → b = c ∨ ∃ p ∈ ps, b ∈ p := by
  intro ps h
  cases ps with
  | nil => rw [Lib.join_nil] at h; simp at h
  | cons x r =>
    rw [Lib.join_cons] at h
    rcases List.mem_append.1 h with h | h
    · exact .inr ⟨x, by simp, h⟩
    · unfold Lib.joinTail at h
      obtain ⟨l, hl, hb⟩ := List.mem_flatten.1 h
      obtain ⟨p, hp, rfl⟩ := List.mem_map.1 hl
      rcases List.mem_append.1 hb with hb | hb
      · exact .inl (List.mem_singleton.1 hb)
      · exact .inr ⟨p, by simp [hp], hb⟩
theorem join_last (c : UInt8) {ps : List (List UInt8)} (hne : ps ≠ []) : Lib.join (ps ++ [[]]) [c] = Lib.join ps [c] ++ [c] := by
  cases ps with
  | nil => exact absurd rfl hne
  | cons x r => rw [List.cons_append, Lib.join_cons, Lib.join_cons]; simp [Lib.joinTail]
theorem allF_itoa : ∀ {zs : List Int}, (∀ z ∈ zs, 0 ≤ z ∧ z ≤ 99) → allF (zs.map Lib.itoa) = some zs := by
  intro zs
  induction zs with
  | nil => intro _; rfl
  | cons z r ih =>
    intro h
    have h1 := h z (by simp)
    rw [List.map_cons, allF, puF_itoa h1.1 h1.2]
    simp only
    rw [ih fun y hy => h y (by simp [hy])]
    simp only [Option.map_some]
    congr 2
    omega
theorem rdF_nums {zs : List Int} (hl : zs.length ≤ 20) (h : ∀ z ∈ zs, 0 ≤ z ∧ z ≤ 99) : rdF (numsL zs) = some zs := by
  rw [numsL_ok hl fun z hz => (h z hz).1]
  cases zs with
  | nil => rfl
  | cons z r =>
    have hs : splitP 44 (Lib.join ((z :: r).map Lib.itoa) [44]) = (z :: r).map Lib.itoa := split_join (by simp) fun p hp b hb => by
      obtain ⟨y, hy, rfl⟩ := List.mem_map.1 hp
      have := itoa_dig (h y hy).1 b hb
      rintro rfl
      simp at this
    have hne : Lib.join ((z :: r).map Lib.itoa) [44] ≠ [] := by
      intro e
      rw [e] at hs
      simp only [splitP, List.map_cons, List.cons.injEq] at hs
      exact itoa_ne z hs.1.symm
    unfold rdF
    rw [if_neg hne, hs, if_pos (by simpa using hl)]
    exact allF_itoa h
theorem nums_dig {zs : List Int} (hl : zs.length ≤ 20) (h : ∀ z ∈ zs, 0 ≤ z) : ∀ b ∈ numsL zs, b = 44 ∨ (48 ≤ b.toNat ∧ b.toNat ≤ 57) := by
  rw [numsL_ok hl h]
  intro b hb
  rcases mem_join hb with rfl | ⟨p, hp, hb⟩
  · exact .inl rfl
  · obtain ⟨y, hy, rfl⟩ := List.mem_map.1 hp
    exact .inr (itoa_dig (h y hy) b hb)
/-- What cueOk says of the lists. -/
theorem cueOk_lists {t : Int} {a p : List Int} (h : cueOk t a p = true) : (1 ≤ t ∧ t ≤ 50) ∧ (a.length ≤ 20 ∧ ∀ z ∈ a, 0 ≤ z ∧ z ≤ 99) ∧ (p.length ≤ 20 ∧ ∀ z ∈ p, 0 ≤ z ∧ z ≤ 99) := by
  simp only [cueOk, Bool.and_eq_true] at h
  have h1 := rises_len (by omega) h.1.2
  have h2 := rises_len (by omega) h.2
  have hA := h.1.2
  have hP := h.2
  simp only [risesB, Bool.and_eq_true] at hA hP
  refine ⟨inB_true.1 h.1.1, ⟨by omega, fun z hz => by have := allB_mem hA.2 z hz; omega⟩, ⟨by omega, fun z hz => by have := allB_mem hP.2 z hz; omega⟩⟩
theorem cueL_yes {t : Int} {a p : List Int} (h : cueOk t a p = true) : cueL t a p = Lib.itoa t ++ 47 :: (numsL a ++ 47 :: numsL p) := by
  unfold cueL
  rw [if_pos h]
  simp
theorem rcF_cue {t : Int} {a p : List Int} (h : cueOk t a p = true) : rcF (cueL t a p) = some (t, a, p) := by
  obtain ⟨ht, ⟨ha1, ha2⟩, hp1, hp2⟩ := cueOk_lists h
  have hs : splitP 47 (cueL t a p) = [Lib.itoa t, numsL a, numsL p] := by
    rw [cueL_yes h, splitP_hit, splitP_hit, splitP_none]
    · intro b hb
      rcases nums_dig hp1 (fun z hz => (hp2 z hz).1) b hb with rfl | hb
      · decide
      · rintro rfl; simp at hb
    · intro b hb
      rcases nums_dig ha1 (fun z hz => (ha2 z hz).1) b hb with rfl | hb
      · decide
      · rintro rfl; simp at hb
    · intro b hb
      have hb := itoa_dig (by omega) b hb
      rintro rfl
      simp at hb
  have e1 := puF_itoa (z := t) (by omega) (by omega)
  have e2 := rd_some (rdF_nums ha1 ha2)
  have e3 := rd_some (rdF_nums hp1 hp2)
  have et : ((t.toNat : Nat) : Int) = t := by omega
  have := rcF_of hs (by rw [e1]; rfl) e2.2 e3.2 (by rw [e1, e2.1, e3.1, Option.getD_some, et])
  rw [this, e1, e2.1, e3.1, Option.getD_some, et]
theorem cueB_ok {n : Int} (hn : n ≤ 12) {z : CueV} (h : cueB n z = true) : cueOk z.1 z.2.1 z.2.2 = true := by
  simp only [cueB, cueOk, Bool.and_eq_true] at h ⊢
  refine ⟨⟨h.1.1, ?_⟩, h.2⟩
  have hA := h.1.2
  simp only [risesB, Bool.and_eq_true] at hA ⊢
  refine ⟨hA.1, List.all_eq_true.2 fun x hx => inB_true.2 ?_⟩
  have := allB_mem hA.2 x hx
  omega
theorem cues_ok {zs : List CueV} (h : cuesB zs = true) : ∀ z ∈ zs, cueOk z.1 z.2.1 z.2.2 = true := by
  intro z hz
  have hl := cuesB_len h
  simp only [cuesB, Bool.and_eq_true] at h
  exact cueB_ok (by omega) (List.all_eq_true.1 h.1.2 z hz)
theorem cue_ne {z : CueV} (h : cueOk z.1 z.2.1 z.2.2 = true) : ∀ b ∈ cueT z, b ≠ 59 := by
  obtain ⟨ht, ⟨ha1, ha2⟩, hp1, hp2⟩ := cueOk_lists h
  intro b hb
  unfold cueT at hb
  rw [cueL_yes h] at hb
  rintro rfl
  rcases List.mem_append.1 hb with hb | hb
  · have := itoa_dig (by omega) _ hb; simp at this
  · rcases List.mem_cons.1 hb with hb | hb
    · simp at hb
    · rcases List.mem_append.1 hb with hb | hb
      · rcases nums_dig ha1 (fun z hz => (ha2 z hz).1) _ hb with hb | hb <;> simp at hb
      · rcases List.mem_cons.1 hb with hb | hb
        · simp at hb
        · rcases nums_dig hp1 (fun z hz => (hp2 z hz).1) _ hb with hb | hb <;> simp at hb
theorem allC_map : ∀ {zs : List CueV}, (∀ z ∈ zs, cueOk z.1 z.2.1 z.2.2 = true) → allC (zs.map cueT) = some zs := by
  intro zs
  induction zs with
  | nil => intro _; rfl
  | cons z r ih =>
    intro h
    rw [List.map_cons, allC, show cueT z = cueL z.1 z.2.1 z.2.2 from rfl, rcF_cue (h z (by simp))]
    simp only
    rw [ih fun y hy => h y (by simp [hy])]
    rfl
theorem rsF_scene {zs : List CueV} (h : cuesB zs = true) : rsF (sceneL zs) = some zs ∧ rsF (sceneL zs ++ [59]) = none := by
  have hl := cuesB_len h
  have hk := cues_ok h
  have hne : zs.map cueT ≠ [] := by
    intro e
    have := congrArg List.length e
    simp at this
    rw [this] at hl
    simp at hl
  have hmem : ∀ p ∈ zs.map cueT, ∀ b ∈ p, b ≠ 59 := by
    intro p hp
    obtain ⟨y, hy, rfl⟩ := List.mem_map.1 hp
    exact cue_ne (hk y hy)
  have hs : sceneL zs = Lib.join (zs.map cueT) [59] := if_pos h
  rw [hs]
  refine ⟨rsF_ok (by rw [split_join hne hmem]; exact allC_map hk) h, rsF_no ?_⟩
  rw [← join_last 59 hne, split_join (by simp)]
  · exact allC_none (p := []) (by simp) (rcF_three (by simp [splitP]))
  · intro p hp
    rcases List.mem_append.1 hp with hp | hp
    · exact hmem p hp
    · rw [List.mem_singleton.1 hp]
      simp
theorem scene_size {zs : List CueV} (h : cuesB zs = true) : (sceneL zs).length ≤ 1200 := by
  refine Nat.le_of_not_lt fun hlt => ?_
  have := rsF_long hlt
  rw [(rsF_scene h).1] at this
  cases this
/-- The constant at the end. -/
theorem last_text : cueL 3 [0, 2] [1] = [51, 47, 48, 44, 50, 47, 49] := by
  have h3 : Lib.itoa 3 = [51] := by rw [show (3 : Int) = ((3 : Nat) : Int) from rfl, Lib.itoa_nonneg, Lib.decDigits_one (by omega)]; rfl
  have h0 : Lib.itoa 0 = [48] := by rw [show (0 : Int) = ((0 : Nat) : Int) from rfl, Lib.itoa_nonneg, Lib.decDigits_one (by omega)]; rfl
  have h2 : Lib.itoa 2 = [50] := by rw [show (2 : Int) = ((2 : Nat) : Int) from rfl, Lib.itoa_nonneg, Lib.decDigits_one (by omega)]; rfl
  have h1 : Lib.itoa 1 = [49] := by rw [show (1 : Int) = ((1 : Nat) : Int) from rfl, Lib.itoa_nonneg, Lib.decDigits_one (by omega)]; rfl
  rw [cueL_yes (by decide), numsL_ok (by decide) (by decide), numsL_ok (by decide) (by decide)]
  simp only [List.map_cons, List.map_nil, h0, h1, h2, h3, Lib.join_cons, Lib.joinTail]
  rfl
end Go.Proofs.YtkkcglncjdoacaaDoor
