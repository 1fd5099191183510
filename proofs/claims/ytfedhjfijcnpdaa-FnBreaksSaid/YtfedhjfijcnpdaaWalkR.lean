/- The ways of the reference: l03Length, l03Walk. -/
import Derived.Test.YtfedhjfijcnpdaaTWay
import Derived.Test.YtfedhjfijcnpdaaBodyS
namespace Go.Proofs.Ytfedhjfijcnpdaa
open Go.ChangeShapes Go.WideShapes Go.ChangeAt Go.RowKit Go.Joins Tr
set_option linter.unusedSimpArgs false
set_option linter.unusedVariables false
set_option maxRecDepth 20000

theorem nats_cons (i : Nat) (r : List Nat) : nats (i :: r) = (i : Int) :: nats r := rfl
theorem limb_nat {N : Nat} {zs : List LimbV} (hz : ∀ z ∈ zs, limbB N z = true) {k : Nat} {z : LimbV} (h : zs[k]? = some z) : ∃ (a b : Nat) (L : Int), z = ((a : Int), (b : Int), L) ∧ a < N ∧ b < N ∧ Adj (edges zs) a b L ∧ 1 ≤ L ∧ L ≤ 100 := by
  have h1 := limbB_iff.1 (hz z (List.mem_of_getElem? h))
  have h2 := adj_at h
  obtain ⟨a, b, L⟩ := z
  dsimp only at h1 h2
  obtain ⟨a, rfl⟩ : ∃ n : Nat, a = n := ⟨a.toNat, by omega⟩
  obtain ⟨b, rfl⟩ : ∃ n : Nat, b = n := ⟨b.toNat, by omega⟩
  rw [Int.toNat_natCast, Int.toNat_natCast] at h2
  exact ⟨a, b, L, rfl, by omega, by omega, h2, by omega⟩
theorem adj_takeN {zs : List LimbV} {k a b : Nat} {L : Int} (hz : zs[k]? = some ((a : Int), (b : Int), L)) {v u : Nat} {M : Int} : Adj (edges (zs.take (k + 1))) v u M ↔ Adj (edges (zs.take k)) v u M ∨ (v = a ∧ u = b ∧ M = L) ∨ (v = b ∧ u = a ∧ M = L) := by
  have := adj_take hz (v := v) (u := u) (L := M)
  simpa using this

set_option maxHeartbeats 1000000 in
theorem specLength_any (N : Nat) (zs : List LimbV) (hzs : ∀ z ∈ zs, limbB N z = true) (x y : Nat) (L : Int) (hall : ∀ M, Adj (edges zs) x y M → M = L) (hex : ∃ M, Adj (edges zs) x y M) (u : Value) (w : World) (h : RdLimb w u zs) :
    Calls Try.prog 73 #[.agg #[.int .i64 N, u], .int .i64 x, .int .i64 y] w fun e w' => e = .returned (.int .i64 L) ∧ Below w.heap.size w w' := by
  obtain ⟨ad, cap, bl, off, rfl, hcap, hmax, had, hc⟩ := h.openC
  have hb0 := below_alloc1 w (.cells #[.int .i64 N, .slice ad zs.length cap] 26)
  have hx0 := BX.new w N (.slice ad zs.length cap)
  have HC := Lib.hid (hc.below hb0)
  have HS := Lib.hid (And.intro hb0 hx0)
  have HZ := Lib.hid (And.intro hzs (And.intro hall hex))
  clear h hc hb0 hx0 hzs hall hex
  go_enter Try.func73, Try.ntmps73
  go_wp2_with (fail)
  generalize w.alloc (.cells #[.int .i64 N, .slice ad zs.length cap] 26) = w1 at HS HC ⊢
  obtain ⟨hB1, hX⟩ := HS.out
  have HB1 := Lib.hid hB1
  have hB := Below.refl w1.heap.size w1
  clear HS hB1
  go_wp2_with (fail)
  go_loopw [7] (fun i wr => ∃ k : Nat, k ≤ zs.length ∧ i = .int .i64 k ∧ Hid (∀ M, ¬ Adj (edges (zs.take k)) x y M) ∧ Below w1.heap.size w1 wr) (fun i _ => zs.length - (intOf i).toNat)
  case atStart => exact ⟨0, Nat.zero_le _, rfl, fun M h => by rcases h with h | h <;> simp [edges] at h, hB⟩
  case round =>
   focus
    clear hB
    obtain ⟨k, hk, rfl, HK, hB⟩ := hrel
    obtain ⟨m0, m1⟩ := hX.below hB
    by_cases hlt : k < zs.length
    · obtain rfl := had (by omega)
      obtain ⟨z, hz⟩ : ∃ x, zs[k]? = some x := ⟨_, List.getElem?_eq_getElem hlt⟩
      obtain ⟨c0, c1, c2⟩ := (HC.out.below hB) k _ hz
      obtain ⟨a, b, K, rfl, ha, hb, hA, hK1, hK2⟩ := limb_nat HZ.out.1 hz
      dsimp only at c0 c1 c2
      have qk : (k : Int) < (zs.length : Int) := by omega
      have hBa := hB.alloc hB.size (.cells #[.int .i64 (a : Int), .int .i64 (b : Int), .int .i64 K] 80)
      have HNX := Lib.hid (fun M => (adj_takeN hz (v := x) (u := y) (M := M)).1)
      have hlA : (a = x ∧ b = y) ∨ (a = y ∧ b = x) → K = L := by
        rintro (⟨rfl, rfl⟩ | ⟨rfl, rfl⟩)
        · exact HZ.out.2.1 _ hA
        · exact HZ.out.2.1 _ hA.symm
      have HLA := Lib.hid hlA
      clear hz hlA
      by_cases h1 : a = x
      · by_cases h2 : b = y
        · subst h1
          subst h2
          obtain rfl := HLA.out (.inl ⟨rfl, rfl⟩)
          go_wp2_with (fail)
          go_ret
          exact ⟨rfl, bvia HB1.out hBa⟩
        · subst h1
          have q2 : ¬ (b : Int) = (y : Int) := by omega
          by_cases h3 : a = y
          · subst h3
            have q4 : ¬ (b : Int) = (a : Int) := by omega
            have HK2 : Hid (∀ M, ¬ Adj (edges (zs.take (k + 1))) a a M) := by
              intro M hM
              rcases HNX.out M hM with hM | ⟨e1, e2, _⟩ | ⟨e1, e2, _⟩
              · exact HK.out M hM
              · omega
              · omega
            go_wp2_with (fail)
            exact ⟨⟨k + 1, by omega, by go_num, HK2, hBa⟩, by simp [intOf]; omega⟩
          · have q3 : ¬ (a : Int) = (y : Int) := by omega
            have HK2 : Hid (∀ M, ¬ Adj (edges (zs.take (k + 1))) a y M) := by
              intro M hM
              rcases HNX.out M hM with hM | ⟨e1, e2, _⟩ | ⟨e1, e2, _⟩
              · exact HK.out M hM
              · omega
              · omega
            go_wp2_with (fail)
            exact ⟨⟨k + 1, by omega, by go_num, HK2, hBa⟩, by simp [intOf]; omega⟩
      · have q1 : ¬ (a : Int) = (x : Int) := by omega
        by_cases h3 : a = y
        · by_cases h4 : b = x
          · subst h3
            subst h4
            obtain rfl := HLA.out (.inr ⟨rfl, rfl⟩)
            go_wp2_with (fail)
            go_ret
            exact ⟨rfl, bvia HB1.out hBa⟩
          · subst h3
            have q4 : ¬ (b : Int) = (x : Int) := by omega
            have HK2 : Hid (∀ M, ¬ Adj (edges (zs.take (k + 1))) x a M) := by
              intro M hM
              rcases HNX.out M hM with hM | ⟨e1, e2, _⟩ | ⟨e1, e2, _⟩
              · exact HK.out M hM
              · omega
              · omega
            go_wp2_with (fail)
            exact ⟨⟨k + 1, by omega, by go_num, HK2, hBa⟩, by simp [intOf]; omega⟩
        · have q3 : ¬ (a : Int) = (y : Int) := by omega
          have HK2 : Hid (∀ M, ¬ Adj (edges (zs.take (k + 1))) x y M) := by
            intro M hM
            rcases HNX.out M hM with hM | ⟨e1, e2, _⟩ | ⟨e1, e2, _⟩
            · exact HK.out M hM
            · omega
            · omega
          go_wp2_with (fail)
          exact ⟨⟨k + 1, by omega, by go_num, HK2, hBa⟩, by simp [intOf]; omega⟩
    · exfalso
      obtain rfl : k = zs.length := by omega
      obtain ⟨M, hM⟩ := HZ.out.2.2
      have := HK.out M
      rw [List.take_length] at this
      exact this hM

set_option maxHeartbeats 1000000 in
theorem specWalk_away (N : Nat) (zs : List LimbV) (d : Nat → Nat → Int) (ht : Tree N (edges zs) d) (hzs : ∀ z ∈ zs, limbB N z = true) (hN : N ≤ 12) (j : Nat) (hj : j < N) : ∀ (m : Nat) (i : Nat) (f : Int) (u : Value) (w : World), i < N → i ≠ j → Away (edges zs) d j i f → 1200 - d j i < (m : Int) → RdLimb w u zs →
    Calls Try.prog 72 #[.agg #[.int .i64 N, u], .int .i64 i, .int .i64 j, .int .i64 f] w fun e w' => ∃ v, e = .returned v ∧ RdI w' v [] ∧ Below w.heap.size w w' := by
  intro m
  induction m with
  | zero =>
    intro i f u w hi _ _ hm _
    have := (ht.le j i hj hi).2
    omega
  | succ m ih =>
    intro i f u w hi hij haw hm h
    have HIH := Lib.hid ih
    have HAW := Lib.hid haw
    have hm' := (ht.le j i hj hi).2
    have hf0 : 0 ≤ f := by obtain ⟨p, rfl, _⟩ := haw; omega
    have HT := Lib.hid ht
    have HZ := Lib.hid hzs
    have qij : ¬ (i : Int) = (j : Int) := by omega
    have qijb : ((i : Int) == (j : Int)) = false := beq_eq_false_iff_ne.2 qij
    clear ih haw ht hzs
    obtain ⟨ad, cap, bl, off, rfl, hcap, hmax, had, hc⟩ := h.openC
    have hb0 := below_alloc1 w (.cells #[.int .i64 N, .slice ad zs.length cap] 26)
    have hx0 := BX.new w N (.slice ad zs.length cap)
    have HC := Lib.hid (hc.below hb0)
    have HR := Lib.hid (h.below hb0)
    have HS := Lib.hid (And.intro hb0 hx0)
    clear hc hb0 hx0 h
    go_enter Try.func72, Try.ntmps72
    go_wp2_with (fail)
    generalize w.alloc (.cells #[.int .i64 N, .slice ad zs.length cap] 26) = w1 at HS HC HR ⊢
    obtain ⟨hB1, hX⟩ := HS.out
    have HB1 := Lib.hid hB1
    have hB := Below.refl w1.heap.size w1
    clear HS hB1
    go_wp2_with (fail)
    go_loopw [9] (fun i' wr => ∃ k : Nat, k ≤ zs.length ∧ i' = .int .i64 k ∧ Below w1.heap.size w1 wr) (fun i _ => zs.length - (intOf i).toNat)
    case atStart => exact ⟨0, Nat.zero_le _, rfl, hB⟩
    case round =>
     focus
      clear hB
      obtain ⟨k, hk, rfl, hB⟩ := hrel
      obtain ⟨m0, m1⟩ := hX.below hB
      by_cases hlt : k < zs.length
      · obtain rfl := had (by omega)
        obtain ⟨z, hz⟩ : ∃ x, zs[k]? = some x := ⟨_, List.getElem?_eq_getElem hlt⟩
        obtain ⟨c0, c1, c2⟩ := (HC.out.below hB) k _ hz
        obtain ⟨a, b, L, rfl, ha, hb, hA, hK1, hK2⟩ := limb_nat HZ.out hz
        dsimp only at c0 c1 c2
        have qk : (k : Int) < (zs.length : Int) := by omega
        have hab := limb_ne HT.out hA
        have HA := Lib.hid hA
        clear hz hA
        by_cases h1 : a = i
        · subst h1
          have q2 : ¬ (b : Int) = (a : Int) := by omega
          have q3 : ¬ (b : Int) < 0 := by omega
          by_cases h3 : (b : Int) = f
          · go_wp2_with (fail)
            exact ⟨⟨k + 1, by omega, by go_num, hB⟩, by simp [intOf]; omega⟩
          · obtain ⟨haw2, hd2⟩ := HAW.out.next HT.out hj HA.out h3
            have hbj : b ≠ j := by
              rintro rfl
              have := HT.out.self b
              have := HT.out.le b a hj hi
              omega
            have HW := Lib.hid (fun w' h => HIH.out b a (.slice (some ⟨bl, off, none⟩) zs.length cap) w' hb hbj haw2 (by omega) h)
            clear haw2
            go_wp2_with (fail)
            refine (HW.out _ (HR.out.below hB)).mono ?_
            rintro e w2 ⟨v, rfl, hv, hb2⟩
            replace hB := bvia hB hb2
            obtain ⟨s1, s2, rfl⟩ := hv.shape
            clear m0 m1 c0 c1 c2 hb2
            go_wp2_with (fail)
            exact ⟨⟨k + 1, by omega, by go_num, hB⟩, by simp [intOf]; omega⟩
        · have q1 : ¬ (a : Int) = (i : Int) := by omega
          by_cases h2 : b = i
          · subst h2
            have q3 : ¬ (a : Int) < 0 := by omega
            by_cases h3 : (a : Int) = f
            · go_wp2_with (fail)
              exact ⟨⟨k + 1, by omega, by go_num, hB⟩, by simp [intOf]; omega⟩
            · obtain ⟨haw2, hd2⟩ := HAW.out.next HT.out hj HA.out.symm h3
              have haj : a ≠ j := by
                rintro rfl
                have := HT.out.self a
                have := HT.out.le a b hj hi
                omega
              have HW := Lib.hid (fun w' h => HIH.out a b (.slice (some ⟨bl, off, none⟩) zs.length cap) w' ha haj haw2 (by omega) h)
              clear haw2
              go_wp2_with (fail)
              refine (HW.out _ (HR.out.below hB)).mono ?_
              rintro e w2 ⟨v, rfl, hv, hb2⟩
              replace hB := bvia hB hb2
              obtain ⟨s1, s2, rfl⟩ := hv.shape
              clear m0 m1 c0 c1 c2 hb2
              go_wp2_with (fail)
              exact ⟨⟨k + 1, by omega, by go_num, hB⟩, by simp [intOf]; omega⟩
          · have q2 : ¬ (b : Int) = (i : Int) := by omega
            go_wp2_with (fail)
            exact ⟨⟨k + 1, by omega, by go_num, hB⟩, by simp [intOf]; omega⟩
      · have HE := Lib.hid (And.intro (OwI.empty wr wr.heap.size (Nat.le_refl _)).rd (below_alloc1 wr (.cells #[] 3)))
        go_wp2_with (fail)
        go_ret
        exact ⟨_, rfl, HE.out.1, bvia HB1.out (bvia hB HE.out.2)⟩

set_option maxHeartbeats 2000000 in
theorem specWalk_tow (N : Nat) (zs : List LimbV) (d : Nat → Nat → Int) (ht : Tree N (edges zs) d) (hzs : ∀ z ∈ zs, limbB N z = true) (hN : N ≤ 12) (j : Nat) (hj : j < N) : ∀ (m : Nat) (i : Nat) (f : Int) (u : Value) (w : World), i < N → Tow (edges zs) d j i f → d j i < (m : Int) → RdLimb w u zs →
    Calls Try.prog 72 #[.agg #[.int .i64 N, u], .int .i64 i, .int .i64 j, .int .i64 f] w fun e w' => ∃ v r, e = .returned v ∧ Way (edges zs) d j (i :: r) ∧ RdI w' v (nats (i :: r)) ∧ Below w.heap.size w w' := by
  intro m
  induction m with
  | zero =>
    intro i f u w hi _ hm _
    have := (ht.le j i hj hi).1
    omega
  | succ m ih =>
    intro i f u w hi htow hm h
    have HIH := Lib.hid ih
    have HTW := Lib.hid htow
    have HT := Lib.hid ht
    have HZ := Lib.hid hzs
    clear ih htow ht hzs
    obtain ⟨ad, cap, bl, off, rfl, hcap, hmax, had, hc⟩ := h.openC
    have hb0 := below_alloc1 w (.cells #[.int .i64 N, .slice ad zs.length cap] 26)
    have hx0 := BX.new w N (.slice ad zs.length cap)
    have HC := Lib.hid (hc.below hb0)
    have HR := Lib.hid (h.below hb0)
    have HS := Lib.hid (And.intro hb0 hx0)
    clear hc hb0 hx0 h
    by_cases hij : i = j
    · subst hij
      go_enter Try.func72, Try.ntmps72
      have hE := rdI_at (w.alloc (.cells #[.int .i64 N, .slice ad zs.length cap] 26)) i (g := w.heap.size + 1) (by simp)
      have HE := Lib.hid (And.intro hE (bvia HS.out.1 (below_alloc1 (w.alloc (.cells #[.int .i64 N, .slice ad zs.length cap] 26) ) (.cells #[.int .i64 i] 3))))
      clear HS HC HR hE
      go_wp2_with (fail)
      go_ret
      exact ⟨_, [], rfl, Way.last, HE.out.1, HE.out.2⟩
    · have qij : ¬ (i : Int) = (j : Int) := by omega
      have qijb : ((i : Int) == (j : Int)) = false := beq_eq_false_iff_ne.2 qij
      go_enter Try.func72, Try.ntmps72
      go_wp2_with (fail)
      generalize w.alloc (.cells #[.int .i64 N, .slice ad zs.length cap] 26) = w1 at HS HC HR ⊢
      obtain ⟨hB1, hX⟩ := HS.out
      have HB1 := Lib.hid hB1
      have hB := Below.refl w1.heap.size w1
      clear HS hB1
      go_wp2_with (fail)
      go_loopw [9] (fun i' wr => ∃ k : Nat, k ≤ zs.length ∧ i' = .int .i64 k ∧ Hid (∀ u M, Adj (edges (zs.take k)) i u M → d j i ≠ d j u + M) ∧ Below w1.heap.size w1 wr) (fun i _ => zs.length - (intOf i).toNat)
      case atStart => exact ⟨0, Nat.zero_le _, rfl, fun u M h => by rcases h with h | h <;> simp [edges] at h, hB⟩
      case round =>
       focus
        clear hB
        obtain ⟨k, hk, rfl, HK, hB⟩ := hrel
        obtain ⟨m0, m1⟩ := hX.below hB
        by_cases hlt : k < zs.length
        · obtain rfl := had (by omega)
          obtain ⟨z, hz⟩ : ∃ x, zs[k]? = some x := ⟨_, List.getElem?_eq_getElem hlt⟩
          obtain ⟨c0, c1, c2⟩ := (HC.out.below hB) k _ hz
          obtain ⟨a, b, L, rfl, ha, hb, hA, hK1, hK2⟩ := limb_nat HZ.out hz
          dsimp only at c0 c1 c2
          have qk : (k : Int) < (zs.length : Int) := by omega
          have hab := limb_ne HT.out hA
          have HA := Lib.hid hA
          have HZK := Lib.hid hz
          clear hz hA
          by_cases h1 : a = i
          · subst h1
            have q2 : ¬ (b : Int) = (a : Int) := by omega
            have q3 : ¬ (b : Int) < 0 := by omega
            have HNX : Hid (∀ u M, Adj (edges (zs.take (k + 1))) a u M → Adj (edges (zs.take k)) a u M ∨ (u = b ∧ M = L)) := by
              intro u M hM
              rcases (adj_takeN HZK.out).1 hM with hM | ⟨_, e1, e2⟩ | ⟨e1, _, _⟩
              · exact .inl hM
              · exact .inr ⟨e1, e2⟩
              · omega
            by_cases hpar : d j a = d j b + L
            · have htw := Tow.up HT.out HA.out hpar
              have hyf : ¬ (b : Int) = f := fun e => HTW.out b e.symm L HA.out hpar
              have HW := Lib.hid (fun w' h => HIH.out b a (.slice (some ⟨bl, off, none⟩) zs.length cap) w' hb htw (by omega) h)
              have HST := Lib.hid (fun r h => Way.step (r := r) HA.out hpar h)
              clear htw
              go_wp2_with (fail)
              refine (HW.out _ (HR.out.below hB)).mono ?_
              rintro e w2 ⟨v, r, rfl, hway, hv, hb2⟩
              replace hB := bvia hB hb2
              obtain ⟨s1, s2, rfl⟩ := hv.shape
              have hl0 : (0 : Int) < ((nats (b :: r)).length : Int) := by simp [nats] <;> omega
              have hwl := (hway.len HT.out hj b r rfl).2
              have hwm := (HT.out.le j b hj hb).2
              have hlen : (nats (b :: r)).length ≤ 2000 := by rw [nats_len]; omega
              have HST2 := Lib.hid (HST.out r hway)
              have hown : OwI (w2.alloc (.cells #[.int .i64 (a : Int)] 3)) w2.heap.size (.slice (some ⟨w2.heap.size, 0, none⟩) 1 1) [(a : Int)] := World.ownsRow_lit w2 #[.int .i64 (a : Int)] 1 (Nat.le_refl _) (by rw [maxLen_eq]; omega) rfl
              have hba := below_alloc1 w2 (.cells #[.int .i64 (a : Int)] 3)
              have hva := hv.below hba
              have hBb := bvia hB hba
              have hsz := hB.size
              clear m0 m1 c0 c1 c2 hb2 hway hwl hwm hv hba HW HST
              generalize hys : nats (b :: r) = ys at hl0 hlen hva ⊢
              replace hys := Lib.hid hys
              go_wp2_with (at_builtin; refine wpList_appI rfl (.tmp 68) (.tmp 69) rfl _ w2.heap.size _ _ rfl hown _ ys rfl hva (by simp <;> omega) (by simp) ?_; intro v' w' o' hgr _; have hB3 := hown.grown_below hBb hsz hgr; clear hgr)
              go_ret
              exact ⟨_, _, rfl, HST2.out, by rw [nats_cons, hys.out]; exact o'.rd, bvia HB1.out hB3⟩
            · have HK2 : Hid (∀ u M, Adj (edges (zs.take (k + 1))) a u M → d j a ≠ d j u + M) := by
                intro u M hM
                rcases HNX.out u M hM with hM | ⟨rfl, rfl⟩
                · exact HK.out u M hM
                · exact hpar
              have haw2 := Tow.down HT.out hj HA.out hpar
              by_cases h3 : (b : Int) = f
              · go_wp2_with (fail)
                exact ⟨⟨k + 1, by omega, by go_num, HK2, hB⟩, by simp [intOf]; omega⟩
              · have hyj : b ≠ j := by
                  rintro rfl
                  rcases HT.out.orient b a b L hj HA.out with e | e
                  · have := HT.out.self b
                    have := HT.out.le b a hj hi
                    omega
                  · exact hpar e
                have HW := Lib.hid (fun w' h => specWalk_away N zs d HT.out HZ.out hN j hj 1300 b a (.slice (some ⟨bl, off, none⟩) zs.length cap) w' hb hyj haw2 (by have := (HT.out.le j b hj hb).1; omega) h)
                clear haw2
                go_wp2_with (fail)
                refine (HW.out _ (HR.out.below hB)).mono ?_
                rintro e w2 ⟨v, rfl, hv, hb2⟩
                replace hB := bvia hB hb2
                obtain ⟨s1, s2, rfl⟩ := hv.shape
                clear m0 m1 c0 c1 c2 hb2
                go_wp2_with (fail)
                exact ⟨⟨k + 1, by omega, by go_num, HK2, hB⟩, by simp [intOf]; omega⟩
          · have q1 : ¬ (a : Int) = (i : Int) := by omega
            by_cases h2 : b = i
            · subst h2
              have q3 : ¬ (a : Int) < 0 := by omega
              have HNX : Hid (∀ u M, Adj (edges (zs.take (k + 1))) b u M → Adj (edges (zs.take k)) b u M ∨ (u = a ∧ M = L)) := by
                intro u M hM
                rcases (adj_takeN HZK.out).1 hM with hM | ⟨e1, _, _⟩ | ⟨_, e1, e2⟩
                · exact .inl hM
                · omega
                · exact .inr ⟨e1, e2⟩
              by_cases hpar : d j b = d j a + L
              · have htw := Tow.up HT.out HA.out.symm hpar
                have hyf : ¬ (a : Int) = f := fun e => HTW.out a e.symm L HA.out.symm hpar
                have HW := Lib.hid (fun w' h => HIH.out a b (.slice (some ⟨bl, off, none⟩) zs.length cap) w' ha htw (by omega) h)
                have HST := Lib.hid (fun r h => Way.step (r := r) HA.out.symm hpar h)
                clear htw
                go_wp2_with (fail)
                refine (HW.out _ (HR.out.below hB)).mono ?_
                rintro e w2 ⟨v, r, rfl, hway, hv, hb2⟩
                replace hB := bvia hB hb2
                obtain ⟨s1, s2, rfl⟩ := hv.shape
                have hl0 : (0 : Int) < ((nats (a :: r)).length : Int) := by simp [nats] <;> omega
                have hwl := (hway.len HT.out hj a r rfl).2
                have hwm := (HT.out.le j a hj ha).2
                have hlen : (nats (a :: r)).length ≤ 2000 := by rw [nats_len]; omega
                have HST2 := Lib.hid (HST.out r hway)
                have hown : OwI (w2.alloc (.cells #[.int .i64 (b : Int)] 3)) w2.heap.size (.slice (some ⟨w2.heap.size, 0, none⟩) 1 1) [(b : Int)] := World.ownsRow_lit w2 #[.int .i64 (b : Int)] 1 (Nat.le_refl _) (by rw [maxLen_eq]; omega) rfl
                have hba := below_alloc1 w2 (.cells #[.int .i64 (b : Int)] 3)
                have hva := hv.below hba
                have hBb := bvia hB hba
                have hsz := hB.size
                clear m0 m1 c0 c1 c2 hb2 hway hwl hwm hv hba HW HST
                generalize hys : nats (a :: r) = ys at hl0 hlen hva ⊢
                replace hys := Lib.hid hys
                go_wp2_with (at_builtin; refine wpList_appI rfl (.tmp 68) (.tmp 69) rfl _ w2.heap.size _ _ rfl hown _ ys rfl hva (by simp <;> omega) (by simp) ?_; intro v' w' o' hgr _; have hB3 := hown.grown_below hBb hsz hgr; clear hgr)
                go_ret
                exact ⟨_, _, rfl, HST2.out, by rw [nats_cons, hys.out]; exact o'.rd, bvia HB1.out hB3⟩
              · have HK2 : Hid (∀ u M, Adj (edges (zs.take (k + 1))) b u M → d j b ≠ d j u + M) := by
                  intro u M hM
                  rcases HNX.out u M hM with hM | ⟨rfl, rfl⟩
                  · exact HK.out u M hM
                  · exact hpar
                have haw2 := Tow.down HT.out hj HA.out.symm hpar
                by_cases h3 : (a : Int) = f
                · go_wp2_with (fail)
                  exact ⟨⟨k + 1, by omega, by go_num, HK2, hB⟩, by simp [intOf]; omega⟩
                · have hyj : a ≠ j := by
                    rintro rfl
                    rcases HT.out.orient a b a L hj HA.out.symm with e | e
                    · have := HT.out.self a
                      have := HT.out.le a b hj hi
                      omega
                    · exact hpar e
                  have HW := Lib.hid (fun w' h => specWalk_away N zs d HT.out HZ.out hN j hj 1300 a b (.slice (some ⟨bl, off, none⟩) zs.length cap) w' ha hyj haw2 (by have := (HT.out.le j a hj ha).1; omega) h)
                  clear haw2
                  go_wp2_with (fail)
                  refine (HW.out _ (HR.out.below hB)).mono ?_
                  rintro e w2 ⟨v, rfl, hv, hb2⟩
                  replace hB := bvia hB hb2
                  obtain ⟨s1, s2, rfl⟩ := hv.shape
                  clear m0 m1 c0 c1 c2 hb2
                  go_wp2_with (fail)
                  exact ⟨⟨k + 1, by omega, by go_num, HK2, hB⟩, by simp [intOf]; omega⟩
            · have q2 : ¬ (b : Int) = (i : Int) := by omega
              have HK2 : Hid (∀ u M, Adj (edges (zs.take (k + 1))) i u M → d j i ≠ d j u + M) := by
                intro u M hM
                rcases (adj_takeN HZK.out).1 hM with hM | ⟨e1, _, _⟩ | ⟨e1, _, _⟩
                · exact HK.out u M hM
                · omega
                · omega
              go_wp2_with (fail)
              exact ⟨⟨k + 1, by omega, by go_num, HK2, hB⟩, by simp [intOf]; omega⟩
        · exfalso
          obtain rfl : k = zs.length := by omega
          obtain ⟨u, M, hM, he⟩ := HT.out.par j i hj hi (fun e => hij e.symm)
          have := HK.out u M
          rw [List.take_length] at this
          exact this hM he
end Go.Proofs.Ytfedhjfijcnpdaa
