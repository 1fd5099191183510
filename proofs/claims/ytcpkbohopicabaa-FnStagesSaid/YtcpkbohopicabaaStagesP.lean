/- The plain law of FnStages: no way around is shorter than the way through, and a way without others is just as long. -/
import Derived.Test.YtcpkbohopicabaaIWay
import Derived.Test.YtcpkbohopicabaaCloseLaw
namespace Go.Proofs.Ytcpkbohopicabaa
set_option linter.unusedSimpArgs false
set_option linter.unusedVariables false

/-! ### How far squares lie apart -/
def cheb (p q : Sp) : Int := max (max (p.1 - q.1) (-(p.1 - q.1))) (max (p.2 - q.2) (-(p.2 - q.2)))
theorem rch_cheb {F : Sp → Prop} {s : Sp} : ∀ {n : Nat} {q : Sp}, Rch F s n q → cheb s q ≤ n := by
  intro n
  induction n with
  | zero =>
    rintro q rfl
    unfold cheb
    omega
  | succ n ih =>
    rintro q (h | ⟨_, p, hp, ha⟩)
    · have := ih h
      omega
    · have h1 := ih hp
      obtain ⟨⟨a1, a2⟩, a3, a4⟩ := ha
      unfold cheb at h1 ⊢
      omega
theorem cheb_rch {wd ht : Int} {F : Sp → Prop} {s : Sp} (hF : ∀ q, spotB wd ht q = true → F q) (hs : spotB wd ht s = true) : ∀ (n : Nat) (q : Sp), spotB wd ht q = true → cheb s q ≤ n → Rch F s n q := by
  intro n
  induction n with
  | zero =>
    intro q _ h
    unfold cheb at h
    exact Prod.ext (by omega) (by omega)
  | succ n ih =>
    intro q hq h
    refine .inr ⟨hF q hq, (q.1 + max (-1) (min 1 (s.1 - q.1)), q.2 + max (-1) (min 1 (s.2 - q.2))), ih _ ?_ ?_, ?_⟩
    · rw [spotB_iff] at hs hq ⊢
      dsimp only
      omega
    · unfold cheb at h ⊢
      dsimp only
      omega
    · unfold adj
      dsimp only
      omega
theorem isWay_ex (F : Sp → Prop) (s t : Sp) : ∃ a, IsWay F s t a := by
  by_cases h : ∃ n, Rch F s n t
  · obtain ⟨n, hn⟩ := h
    have hm : ∀ n, Rch F s n t → ∃ m, Rch F s m t ∧ ∀ k, k < m → ¬ Rch F s k t := by
      intro n
      induction n using Nat.strongRecOn with
      | ind n ih =>
        intro hn
        by_cases h2 : ∃ k, k < n ∧ Rch F s k t
        · obtain ⟨k, hk, hk2⟩ := h2
          exact ih k hk hk2
        · exact ⟨n, hn, fun k hk hk2 => h2 ⟨k, hk, hk2⟩⟩
    obtain ⟨m, h1, h2⟩ := hm n hn
    exact ⟨m, .inl ⟨m, rfl, h1, h2⟩⟩
  · exact ⟨-1, .inr ⟨rfl, fun n hn => h ⟨n, hn⟩⟩⟩
theorem adj_refl (p : Sp) : adj p p := by unfold adj; omega
theorem adj_symm {p q : Sp} (h : adj p q) : adj q p := by unfold adj at h ⊢; omega
/-- The first step of a way. -/
theorem rch_first {F : Sp → Prop} {s : Sp} : ∀ (n : Nat) (q : Sp), Rch F s (n + 1) q → ∃ p, (F p ∨ p = s) ∧ adj s p ∧ Rch F p n q := by
  intro n
  induction n with
  | zero =>
    rintro q (h | ⟨hf, p, hp, ha⟩)
    · exact ⟨s, .inr rfl, adj_refl s, h⟩
    · have hp : p = s := hp
      subst hp
      exact ⟨q, .inl hf, ha, rfl⟩
  | succ n ih =>
    rintro q (h | ⟨hf, p, hp, ha⟩)
    · obtain ⟨r, h1, h2, h3⟩ := ih q h
      exact ⟨r, h1, h2, .inl h3⟩
    · obtain ⟨r, h1, h2, h3⟩ := ih p hp
      exact ⟨r, h1, h2, .inr ⟨hf, p, h3, ha⟩⟩
theorem rch_ahead {F : Sp → Prop} {s p : Sp} (hF : F p) (ha : adj s p) : ∀ (m : Nat) (q : Sp), Rch F p m q → Rch F s (m + 1) q := by
  intro m
  induction m with
  | zero =>
    rintro q rfl
    exact .inr ⟨hF, s, rfl, ha⟩
  | succ m ih =>
    rintro q (h | ⟨hf, r, hr, hra⟩)
    · exact .inl (ih q h)
    · exact .inr ⟨hf, r, ih r hr, hra⟩
/-- From the first step on the way is one shorter. -/
theorem IsWay.first {F : Sp → Prop} {s t : Sp} {a : Int} (h : IsWay F s t a) (hp : 0 < a) : ∃ p, F p ∧ adj s p ∧ IsWay F p t (a - 1) := by
  rcases h with ⟨n, rfl, h1, h2⟩ | ⟨rfl, _⟩
  · obtain ⟨m, rfl⟩ : ∃ m, n = m + 1 := ⟨n - 1, by omega⟩
    obtain ⟨p, hF, ha, h3⟩ := rch_first m t h1
    rcases hF with hF | rfl
    · refine ⟨p, hF, ha, .inl ⟨m, by omega, h3, fun k hk hk2 => h2 (k + 1) (by omega) (rch_ahead hF ha k t hk2)⟩⟩
    · exact absurd h3 (h2 m (by omega))
  · omega
theorem IsWay.cheb_le {F : Sp → Prop} {s t : Sp} {a : Int} (h : IsWay F s t a) (hp : 0 ≤ a) : cheb s t ≤ a := by
  rcases h with ⟨n, rfl, h1, _⟩ | ⟨rfl, _⟩
  · exact rch_cheb h1
  · omega
theorem IsWay.ge {F : Sp → Prop} {s t : Sp} {a : Int} (h : IsWay F s t a) : -1 ≤ a := by
  rcases h with ⟨n, rfl, h1, _⟩ | ⟨rfl, _⟩ <;> omega
theorem IsWay.self {F : Sp → Prop} {s t : Sp} {a : Int} (h : IsWay F s t a) (hc : cheb s t = 0) : a = 0 := by
  have hst : t = s := by
    unfold cheb at hc
    exact Prod.ext (by omega) (by omega)
  subst hst
  rcases h with ⟨n, rfl, h1, h2⟩ | ⟨rfl, h1⟩
  · by_cases hn : n = 0
    · omega
    · exact absurd rfl (h2 0 (by omega))
  · exact absurd rfl (h1 0)
theorem IsWay.no {F : Sp → Prop} {s t : Sp} {a : Int} (h : IsWay F s t a) (hf : ¬ F t) (hne : t ≠ s) : a = -1 := by
  have hno : ∀ n, ¬ Rch F s n t := by
    intro n
    induction n with
    | zero => exact hne
    | succ n ih =>
      rintro (h | ⟨h, _⟩)
      · exact ih h
      · exact hf h
  rcases h with ⟨n, rfl, h1, h2⟩ | ⟨rfl, h1⟩
  · exact absurd h1 (hno n)
  · rfl
theorem IsWay.alone {wd ht : Int} {F : Sp → Prop} {s t : Sp} (hF : ∀ q, spotB wd ht q = true → F q) (hs : spotB wd ht s = true) (ht' : spotB wd ht t = true) : IsWay F s t (cheb s t) := by
  have h0 : 0 ≤ cheb s t := by unfold cheb; omega
  refine .inl ⟨(cheb s t).toNat, by omega, cheb_rch hF hs _ t ht' (by omega), fun m hm hm2 => ?_⟩
  have := rch_cheb hm2
  omega
theorem spotsF_iff (wd ht : Int) (zs : List Sp) : ∀ A, spotsF wd ht A zs = true ↔ (∀ x ∈ zs, spotB wd ht x = true) ∧ zs.Nodup ∧ ∀ x ∈ zs, x ∉ A := by
  induction zs with
  | nil => intro A; simp [spotsF]
  | cons z r ih =>
    intro A
    have hh : (!hasSpot z A) = true ↔ z ∉ A := by rw [← hasSpot_mem]; simp
    rw [spotsF_cons, Bool.and_eq_true, Bool.and_eq_true, hh, ih (A ++ [z]), List.nodup_cons]
    constructor
    · rintro ⟨⟨h1, h2⟩, h3, h4, h5⟩
      refine ⟨?_, ⟨fun hz => ?_, h4⟩, ?_⟩
      · intro x hx
        rcases List.mem_cons.1 hx with rfl | hx
        · exact h1
        · exact h3 x hx
      · exact h5 z hz (by simp)
      · intro x hx
        rcases List.mem_cons.1 hx with rfl | hx
        · exact h2
        · exact fun ha => h5 x hx (by simp [ha])
    · rintro ⟨h1, ⟨h2, h3⟩, h4⟩
      refine ⟨⟨h1 z (by simp), h4 z (by simp)⟩, fun x hx => h1 x (by simp [hx]), h3, fun x hx ha => ?_⟩
      rcases List.mem_append.1 ha with ha | ha
      · exact h4 x (by simp [hx]) ha
      · rw [List.mem_singleton] at ha
        exact h2 (ha ▸ hx)
theorem spotsB_iff {wd ht : Int} {zs : List Sp} : spotsB wd ht zs = true ↔ (1 ≤ wd ∧ wd ≤ 12) ∧ (1 ≤ ht ∧ ht ≤ 12) ∧ zs.length ≤ 7 ∧ (∀ x ∈ zs, spotB wd ht x = true) ∧ zs.Nodup := by
  unfold spotsB
  rw [Bool.and_eq_true, Bool.and_eq_true, Bool.and_eq_true, inB_true, inB_true, decide_eq_true_eq, spotsF_iff]
  constructor
  · rintro ⟨⟨⟨h1, h2⟩, h3⟩, h4, h5, _⟩
    exact ⟨h1, h2, h3, h4, h5⟩
  · rintro ⟨h1, h2, h3, h4, h5⟩
    exact ⟨⟨⟨h1, h2⟩, h3⟩, h4, h5, fun x _ => by simp⟩
theorem steps_cheb {wd ht : Int} {s t : Sp} (hw : wd ≤ 12) (hh : ht ≤ 12) (hs : spotB wd ht s = true) (hg : spotB wd ht t = true) : stepsBetween s.1 s.2 t.1 t.2 = cheb s t := by
  rw [spotB_iff] at hs hg
  unfold stepsBetween cheb
  rw [if_pos]
  rw [all4, inB_true, inB_true, inB_true, inB_true]
  omega
theorem way_is {wd ht : Int} {zs : List Sp} {kn : Nat} {s t : Sp} (hz : spotsB wd ht zs = true) (hk : zs[kn]? = some s) (hg : spotB wd ht t = true) : IsWay (freeS wd ht zs kn) s t (wayF wd ht zs kn t) := by
  have hkl := (List.getElem?_eq_some_iff.1 hk).1
  have hgd : zs.getD kn (0, 0) = s := by rw [List.getD_eq_getElem?_getD, hk]; rfl
  have hin : wayIn wd ht zs kn t = true := by
    unfold wayIn
    rw [hz, hg, inB_true.2 (by omega)]
    rfl
  obtain ⟨a, ha⟩ := isWay_ex (freeS wd ht zs kn) s t
  have h := wayF_eq (a := a) hin (by rw [Int.toNat_natCast, hgd]; exact ha)
  rw [h]
  exact ha
theorem way_alone {wd ht : Int} {s t : Sp} (hw : 1 ≤ wd ∧ wd ≤ 12) (hh : 1 ≤ ht ∧ ht ≤ 12) (hs : spotB wd ht s = true) (hg : spotB wd ht t = true) : wayF wd ht [s] 0 t = cheb s t := by
  have hz : spotsB wd ht [s] = true := spotsB_iff.2 ⟨hw, hh, by simp, by simpa using hs, by simp⟩
  have h1 := way_is (kn := 0) (s := s) hz rfl hg
  refine h1.one (IsWay.alone (fun q hq => ⟨hq, ?_⟩) hs hg)
  rintro ⟨j, hj, h0, _⟩
  simp at hj
  omega
theorem way_taken {wd ht : Int} {zs : List Sp} {kn : Nat} {s t : Sp} (hz : spotsB wd ht zs = true) (hk : zs[kn]? = some s) (hg : spotB wd ht t = true) (ht' : isO zs kn zs.length t) : wayF wd ht zs kn t = -1 := by
  refine (way_is hz hk hg).no (fun hf => hf.2 ht') ?_
  rintro rfl
  obtain ⟨j, hj, hjk, hx⟩ := ht'
  obtain ⟨_, _, _, _, hn⟩ := spotsB_iff.1 hz
  obtain ⟨h1, h2⟩ := List.getElem?_eq_some_iff.1 hk
  obtain ⟨h3, h4⟩ := List.getElem?_eq_some_iff.1 hx
  unfold List.Nodup at hn
  rw [List.pairwise_iff_getElem] at hn
  rcases Nat.lt_trichotomy j kn with h | h | h
  · exact hn j kn h3 h1 h (by rw [h2, h4])
  · exact hjk h
  · exact hn kn j h1 h3 h (by rw [h2, h4])
theorem isO_set {zs : List Sp} {kn : Nat} {p q : Sp} : isO (zs.set kn p) kn (zs.set kn p).length q ↔ isO zs kn zs.length q := by
  unfold isO
  constructor
  · rintro ⟨j, hj, hk, hx⟩
    rw [List.getElem?_set_ne (fun e => hk e.symm)] at hx
    exact ⟨j, by simpa using hj, hk, hx⟩
  · rintro ⟨j, hj, hk, hx⟩
    exact ⟨j, by simpa using hj, hk, by rw [List.getElem?_set_ne (fun e => hk e.symm)]; exact hx⟩
theorem nodup_set {zs : List Sp} {kn : Nat} {p : Sp} (hn : zs.Nodup) (hp : ¬ isO zs kn zs.length p) : (zs.set kn p).Nodup := by
  unfold List.Nodup at hn ⊢
  rw [List.pairwise_iff_getElem] at hn ⊢
  intro i j hi hj hij
  rw [List.length_set] at hi hj
  rw [List.getElem_set, List.getElem_set]
  split
  · split
    · omega
    · rename_i h1 h2
      intro e
      exact hp ⟨j, hj, fun e2 => h2 e2.symm, by rw [List.getElem?_eq_getElem hj, e]⟩
  · split
    · rename_i h1 h2
      intro e
      exact hp ⟨i, hi, fun e2 => h1 e2.symm, by rw [List.getElem?_eq_getElem hi, e]⟩
    · exact hn i j hi hj hij
/-- One of the nine steps leads on. -/
theorem way_step {wd ht : Int} {zs : List Sp} {kn : Nat} {s t : Sp} (hz : spotsB wd ht zs = true) (hk : zs[kn]? = some s) (hg : spotB wd ht t = true) (hp : 0 < wayF wd ht zs kn t) :
    ∃ e, e < 9 ∧ stepOk wd ht zs kn ((e % 3 : Nat) - 1) ((e / 3 : Nat) - 1) = true ∧ wayF wd ht (stepL wd ht zs kn ((e % 3 : Nat) - 1) ((e / 3 : Nat) - 1)) kn t = wayF wd ht zs kn t - 1 := by
  obtain ⟨p, hF, ha, h1⟩ := (way_is hz hk hg).first hp
  obtain ⟨e, he, rfl⟩ := nbS_adj.1 ha
  have hkl := (List.getElem?_eq_some_iff.1 hk).1
  have hgd : zs.getD kn (0, 0) = s := by rw [List.getD_eq_getElem?_getD, hk]; rfl
  have hst : stepTo zs kn ((e % 3 : Nat) - 1) ((e / 3 : Nat) - 1) = zs.set kn (nbS s e) := by
    unfold stepTo
    rw [Int.toNat_natCast, hgd]
    unfold nbS
    congr 1
    exact Prod.ext (by dsimp only; omega) (by dsimp only; omega)
  obtain ⟨hw, hh, hl, hG, hN⟩ := spotsB_iff.1 hz
  have hz2 : spotsB wd ht (zs.set kn (nbS s e)) = true := by
    refine spotsB_iff.2 ⟨hw, hh, by simpa using hl, fun x hx => ?_, nodup_set hN hF.2⟩
    rcases List.mem_or_eq_of_mem_set hx with hx | rfl
    · exact hG x hx
    · exact hF.1
  have hok : stepOk wd ht zs kn ((e % 3 : Nat) - 1) ((e / 3 : Nat) - 1) = true := by
    unfold stepOk stepIn
    rw [hst, hz, hz2, inB_true.2 (by omega), inB_true.2 (by omega), inB_true.2 (by omega)]
    rfl
  refine ⟨e, he, hok, ?_⟩
  have hL : stepL wd ht zs kn ((e % 3 : Nat) - 1) ((e / 3 : Nat) - 1) = zs.set kn (nbS s e) := by
    unfold stepL
    rw [if_pos hok, hst]
  rw [hL]
  have h2 := way_is (kn := kn) (s := nbS s e) hz2 (by rw [List.getElem?_set_self hkl]) hg
  have hFF : freeS wd ht (zs.set kn (nbS s e)) kn = freeS wd ht zs kn := by
    funext q
    unfold freeS
    rw [isO_set]
  rw [hFF] at h2
  exact h2.one h1
/-- What the law asks of the ways. -/
theorem stages_ways {wd ht : Int} {zs : List Sp} {kn : Nat} {s t : Sp} (hz : spotsB wd ht zs = true) (hk : zs[kn]? = some s) (hg : spotB wd ht t = true) :
    0 ≤ cheb s t ∧ stepsBetween s.1 s.2 t.1 t.2 = cheb s t ∧ wayF wd ht [s] 0 t = cheb s t ∧ (0 ≤ wayF wd ht zs kn t → cheb s t ≤ wayF wd ht zs kn t) ∧ (isO zs kn zs.length t → wayF wd ht zs kn t = -1) ∧ (cheb s t = 0 → wayF wd ht zs kn t = 0) ∧ -1 ≤ wayF wd ht zs kn t ∧ cheb s t ≤ 12 := by
  obtain ⟨hw, hh, hl, hG, hN⟩ := spotsB_iff.1 hz
  have hs := hG s (List.mem_of_getElem? hk)
  have hW := way_is hz hk hg
  refine ⟨by unfold cheb; omega, steps_cheb hw.2 hh.2 hs hg, way_alone hw hh hs hg, fun h => hW.cheb_le h, fun h => way_taken hz hk hg h, fun h => hW.self h, hW.ge, ?_⟩
  rw [spotB_iff] at hs hg
  unfold cheb
  omega
theorem rch_chain {F : Sp → Prop} {s : Sp} : ∀ (n : Nat) (q : Sp), Rch F s n q → (∀ m, m < n → ¬ Rch F s m q) → ∃ L : List Sp, L.length = n + 1 ∧ L.Nodup ∧ ∀ x ∈ L, (x = s ∨ F x) ∧ Rch F s n x := by
  intro n
  induction n with
  | zero => intro q h _; exact ⟨[q], rfl, by simp, fun x hx => by simp at hx; subst hx; exact ⟨.inl h, h⟩⟩
  | succ n ih =>
    rintro q (h | ⟨hf, p, hp, ha⟩) hm
    · exact absurd h (hm n (by omega))
    · obtain ⟨L, h1, h2, h3⟩ := ih p hp (fun m hmn hmp => hm (m + 1) (by omega) (.inr ⟨hf, p, hmp, ha⟩))
      refine ⟨L ++ [q], by simp [h1], ?_, fun x hx => ?_⟩
      · rw [List.nodup_append]
        refine ⟨h2, by simp, fun a hal b hb e => ?_⟩
        rw [List.mem_singleton] at hb
        have hq : q ∈ L := by rw [← hb, ← e]; exact hal
        exact hm n (by omega) (h3 q hq).2
      · rcases List.mem_append.1 hx with hx | hx
        · exact ⟨(h3 x hx).1, .inl (h3 x hx).2⟩
        · rw [List.mem_singleton] at hx
          subst hx
          exact ⟨.inr hf, .inr ⟨hf, p, hp, ha⟩⟩
theorem way_max {wd ht : Int} {zs : List Sp} {kn : Nat} {s t : Sp} (hz : spotsB wd ht zs = true) (hk : zs[kn]? = some s) (hg : spotB wd ht t = true) : wayF wd ht zs kn t ≤ 144 := by
  obtain ⟨hw, hh, _, hG, _⟩ := spotsB_iff.1 hz
  have hs := hG s (List.mem_of_getElem? hk)
  rcases way_is hz hk hg with ⟨n, h0, h1, h2⟩ | ⟨h0, _⟩
  · obtain ⟨L, h3, h4, h5⟩ := rch_chain n t h1 h2
    have h6 := grid_144 hw hh h4 (fun x hx => by
      rcases (h5 x hx).1 with rfl | h
      · exact hs
      · exact h.1)
    omega
  · omega
theorem stepsAt_ge {wd ht : Int} {zs : List Sp} (hz : spotsB wd ht zs = true) {i k : Nat} (hi : i < zs.length) (hk : k < zs.length) : 0 ≤ stepsAt zs i k := by
  obtain ⟨hw, hh, _, hG, _⟩ := spotsB_iff.1 hz
  have hx : zs.getD i (0, 0) ∈ zs := by rw [List.getD_eq_getElem?_getD, List.getElem?_eq_getElem hi]; exact List.getElem_mem hi
  have hy : zs.getD k (0, 0) ∈ zs := by rw [List.getD_eq_getElem?_getD, List.getElem?_eq_getElem hk]; exact List.getElem_mem hk
  unfold stepsAt
  rw [steps_cheb hw.2 hh.2 (hG _ hx) (hG _ hy)]
  unfold cheb
  omega
theorem way_bound {wd ht : Int} {zs : List Sp} {k : Int} {t : Sp} : -1 ≤ wayF wd ht zs k t := by
  unfold wayF
  split
  · split
    · rename_i h
      exact (Classical.choose_spec h).ge
    · omega
  · omega
end Go.Proofs.Ytcpkbohopicabaa
