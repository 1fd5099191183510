/- The walks of CoversAll: whether shadows cover all heights. -/
import Derived.Test.YtfedhjfijcnpdaaSSH
namespace Go.Proofs.Ytfedhjfijcnpdaa
open Go.ChangeShapes Go.WideShapes Go.ChangeAt Go.RowKit Go.Joins
set_option linter.unusedSimpArgs false
set_option linter.unusedVariables false

def coverB (h : Int) (zs : List Int) : Bool := decide (zs.getD 0 0 ≤ h) && decide (h ≤ zs.getD 1 0)
def len2 (zss : LL) : Bool := zss.all fun zs => zs.length == 2
/-- P at a, a + 1, .., n numbers. -/
def rangeAll (P : Int → Bool) : Int → Nat → Bool
  | _, 0 => true
  | a, n + 1 => P a && rangeAll P (a + 1) n
def coversB (zss : LL) (a b : Int) : Bool := decide (zss.length ≤ 20) && inB a 0 200 && inB b 0 200 && len2 zss && rangeAll (fun h => zss.any (coverB h)) a (b + 1 - a).toNat
theorem len2_cons (zs : List Int) (r : LL) : len2 (zs :: r) = (zs.length == 2 && len2 r) := rfl
theorem len2_get {zss : LL} (h : len2 zss = true) {k : Nat} {zs : List Int} (hk : zss[k]? = some zs) : zs.length = 2 := by
  have := List.all_eq_true.1 h zs (List.mem_of_getElem? hk)
  simpa using this
theorem rangeAll_step (P : Int → Bool) {a b : Int} (h : a ≤ b) : rangeAll P a (b + 1 - a).toNat = (P a && rangeAll P (a + 1) (b + 1 - (a + 1)).toNat) := by
  obtain ⟨n, hn⟩ : ∃ n : Nat, (b + 1 - a).toNat = n + 1 := ⟨(b - a).toNat, by omega⟩
  rw [hn, show (b + 1 - (a + 1)).toNat = n by omega]
  rfl
theorem rangeAll_end (P : Int → Bool) {a b : Int} (h : b < a) : rangeAll P a (b + 1 - a).toNat = true := by
  rw [show (b + 1 - a).toNat = 0 by omega]
  rfl
theorem two_of {zs : List Int} (h : zs.length = 2) : ∃ p q, zs = [p, q] := by
  match zs, h with
  | [p, q], _ => exact ⟨p, q, rfl⟩
theorem cover_two (h p q : Int) : coverB h [p, q] = (decide (p ≤ h) && decide (h ≤ q)) := rfl
set_option maxHeartbeats 1600000 in
theorem implCoversAll_any (zss : LL) (a b : Int) (v : Value) (w : World) (h : RdII w v zss) :
    Calls Try.prog 26 #[v, .int .i64 a, .int .i64 b] w fun e w' => e = .returned (.bool (coversB zss a b)) ∧ w = w' := by
  have cw : ∀ (x lo hi : Int) (b : Bool), inB x lo hi = b → ∀ u, Calls Try.prog 49 #[.int .i64 x, .int .i64 lo, .int .i64 hi] u fun e w' => e = .returned (.bool b) ∧ u = w' := fun x lo hi b hb u => by have := within_any x lo hi u; rwa [hb] at this
  obtain ⟨ad, cap, bl, off, rfl, hcap, hmax, had, hc⟩ := h.open
  have HC := Lib.hid hc
  clear h hc
  by_cases hl : zss.length ≤ 20
  · cases h0 : inB a 0 200 with
    | false =>
      go_enter Try.func26, Try.ntmps26
      go_wp2_with (fail)
      refine (cw a _ _ _ h0 _).mono ?_
      rintro e w9 ⟨rfl, rfl⟩
      go_wp2_with (fail)
      go_ret
      exact ⟨ret_bool (by simp [coversB, h0]), rfl⟩
    | true =>
      cases h1 : inB b 0 200 with
      | false =>
        go_enter Try.func26, Try.ntmps26
        go_wp2_with (fail)
        refine (cw a _ _ _ h0 _).mono ?_
        rintro e w9 ⟨rfl, rfl⟩
        go_wp2_with (fail)
        refine (cw b _ _ _ h1 _).mono ?_
        rintro e w9 ⟨rfl, rfl⟩
        go_wp2_with (fail)
        go_ret
        exact ⟨ret_bool (by simp [coversB, h1]), rfl⟩
      | true =>
        have ha := inB_true.1 h0
        have hb := inB_true.1 h1
        have HV : Hid (coversB zss a b = (len2 zss && rangeAll (fun h => zss.any (coverB h)) a (b + 1 - a).toNat)) := by show _ = _; simp [coversB, hl, h0, h1]
        go_enter Try.func26, Try.ntmps26
        go_wp2_with (fail)
        refine (cw a _ _ _ h0 _).mono ?_
        rintro e w9 ⟨rfl, rfl⟩
        go_wp2_with (fail)
        refine (cw b _ _ _ h1 _).mono ?_
        rintro e w9 ⟨rfl, rfl⟩
        go_wp2_with (fail)
        go_loop [28] (fun i => ∃ k : Nat, k ≤ zss.length ∧ i = .int .i64 k ∧ Hid (len2 (zss.drop k) = len2 zss)) (fun i => zss.length - (intOf i).toNat)
        case atStart => exact ⟨0, Nat.zero_le _, rfl, rfl⟩
        case round =>
          obtain ⟨k, hk, rfl, H⟩ := hrel
          by_cases hlt : k < zss.length
          · obtain rfl := had (by omega)
            obtain ⟨zs, hz, _, hd, _⟩ := getSS hlt
            obtain ⟨u, hck, hu⟩ := HC.out k zs hz
            have hmx : zs.length ≤ 9223372036854775807 := by obtain ⟨_, _, _, _, _, h1, h2, _⟩ := hu.open; omega
            obtain ⟨a2, cap2, rfl⟩ := hu.shape
            have HD := Lib.hid hd
            clear hd hz
            by_cases h2 : zs.length = 2
            · have hq : (zs.length : Int) = 2 := by omega
              go_wp2
              exact ⟨⟨k + 1, by omega, by go_num, by show _ = _; rw [← H.out, HD.out, len2_cons, h2]; rfl⟩, by simp [intOf]; omega⟩
            · have hq : (zs.length : Int) ≠ 2 := by omega
              go_wp2
              go_ret
              exact ⟨ret_bool (by rw [HV.out, ← H.out, HD.out, len2_cons]; simp [h2]), rfl⟩
          · have hl2 : len2 zss = true := by
              rw [← H.out, List.drop_eq_nil_of_le (by omega)]
              rfl
            have HL := Lib.hid hl2
            clear hl2
            go_wp2
            go_loop [9] (fun i => ∃ n : Nat, a + n ≤ max a (b + 1) ∧ i = .int .i64 (a + n) ∧ Hid (rangeAll (fun h => zss.any (coverB h)) (a + n) (b + 1 - (a + n)).toNat = rangeAll (fun h => zss.any (coverB h)) a (b + 1 - a).toNat)) (fun i => (b + 1 - intOf i).toNat)
            case atStart => exact ⟨0, by omega, by simp, by show _ = _; simp⟩
            case round =>
              obtain ⟨n, hn, rfl, HR⟩ := hrel
              by_cases hle : a + (n : Int) ≤ b
              · go_wp2
                go_loop [10, 44] (fun c i => ∃ (k : Nat) (q : Bool), k ≤ zss.length ∧ i = .int .i64 k ∧ c = .bool q ∧ Hid ((q || (zss.drop k).any (coverB (a + n))) = zss.any (coverB (a + n)))) (fun _ i => zss.length - (intOf i).toNat)
                case atStart => exact ⟨0, false, Nat.zero_le _, rfl, rfl, rfl⟩
                case round =>
                  obtain ⟨k, q, hk, rfl, rfl, HA⟩ := hrel
                  by_cases hlt : k < zss.length
                  · obtain rfl := had (by omega)
                    obtain ⟨zs, hz, _, hd, _⟩ := getSS hlt
                    obtain ⟨u, hck, hu⟩ := HC.out k zs hz
                    obtain ⟨x, y, rfl⟩ := two_of (len2_get HL.out hz)
                    obtain ⟨a2, cap2, b2, o2, rfl, hcap2, hmax2, had2, hc2⟩ := hu.open
                    obtain rfl := had2 (by simp)
                    have hx := hc2 0 (by simp)
                    have hy := hc2 1 (by simp)
                    simp only [List.getD_cons_zero, List.getD_cons_succ, List.length_cons, List.length_nil, Nat.zero_add, Nat.reduceAdd, Nat.add_zero] at hx hy hck
                    have HD := Lib.hid hd
                    clear hd hz hc2 hu had2 hcap2
                    have hfin : ∀ r : Bool, r = (q || (decide (x ≤ a + n) && decide (a + n ≤ y))) → Hid ((r || (zss.drop (k + 1)).any (coverB (a + n))) = zss.any (coverB (a + n))) := by
                      intro r hr
                      show _ = _
                      rw [← HA.out, HD.out, List.any_cons, cover_two, hr, Bool.or_assoc]
                    cases q with
                    | true =>
                      go_wp2
                      exact ⟨⟨k + 1, _, by omega, by go_num, rfl, hfin _ (by simp)⟩, by simp [intOf]; omega⟩
                    | false =>
                      by_cases hx1 : x ≤ a + (n : Int)
                      · by_cases hy1 : a + (n : Int) ≤ y
                        · go_wp2
                          exact ⟨⟨k + 1, _, by omega, by go_num, rfl, hfin _ (by simp [hx1, hy1])⟩, by simp [intOf]; omega⟩
                        · go_wp2
                          exact ⟨⟨k + 1, _, by omega, by go_num, rfl, hfin _ (by simp [hx1, hy1])⟩, by simp [intOf]; omega⟩
                      · go_wp2
                        exact ⟨⟨k + 1, _, by omega, by go_num, rfl, hfin _ (by simp [hx1])⟩, by simp [intOf]; omega⟩
                  · have hq : q = zss.any (coverB (a + n)) := by
                      have := HA.out
                      rw [List.drop_eq_nil_of_le (by omega)] at this
                      simpa using this
                    have HQ := Lib.hid hq
                    clear hq
                    cases q with
                    | true =>
                      go_wp2
                      exact ⟨⟨n + 1, by omega, by go_num, by show _ = _; rw [← HR.out, rangeAll_step _ hle, ← HQ.out, Bool.true_and, show a + ((n + 1 : Nat) : Int) = a + n + 1 by omega]⟩, by simp [intOf]; omega⟩
                    | false =>
                      go_wp2
                      go_ret
                      exact ⟨ret_bool (by rw [HV.out, HL.out, ← HR.out, rangeAll_step _ hle, ← HQ.out]; rfl), rfl⟩
              · go_wp2
                go_ret
                exact ⟨ret_bool (by rw [HV.out, HL.out, ← HR.out, rangeAll_end _ (by omega)]; rfl), rfl⟩
  · go_enter Try.func26, Try.ntmps26
    go_wp2_with (fail)
    go_ret
    exact ⟨ret_bool (by simp [coversB, hl]), rfl⟩

end Go.Proofs.Ytfedhjfijcnpdaa
