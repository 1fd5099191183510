/- The walks of FormatInt: a number's digits. -/
import Derived.Test.YtkkcglncjdoacaaDoorStr
import Derived.Lib.ItoaLen
namespace Go.Proofs.YtkkcglncjdoacaaDoor
open Go.ChangeShapes Go.WideShapes Go.ChangeAt Go.RowKit Go.Joins Go.Deep Go.Sort
set_option linter.unusedSimpArgs false
set_option linter.unusedVariables false
set_option maxRecDepth 20000

theorem implFormatInt_any (n : Int) (h0 : -9223372036854775808 ≤ n) (h1 : n ≤ 9223372036854775807) (w : World) (ht : Pow10 w) :
    Calls Tryd.prog 40 #[.int .i64 n] w fun e w' => e = .returned (.string ⟨(Lib.itoa n).toArray⟩) ∧ Below w.heap.size w w' := by
  go_enter Tryd.func40, Tryd.ntmps40
  go_wp2_with (fail)
  refine (Tryd.strconv_Itoa n h0 h1 _ ht).mono ?_
  rintro e w1 ⟨rfl, k, os, rfl⟩
  have hb := below_growS w k os
  generalize grow (w.drewN k) os = w2 at hb ⊢
  go_wp2_with (fail)
  go_ret
  exact ⟨rfl, hb⟩
theorem l01Figure_any (d : Int) (h0 : 0 ≤ d) (h1 : d < 10) (w : World) : Calls Tryd.prog 55 #[.int .i64 d] w fun e w' => e = .returned (.int .u8 (48 + d)) ∧ w = w' := by
  have hw : IntKind.u8.wrap (48 + d) = 48 + d := IntWalk.u8_in _ (by omega)
  go_enter Tryd.func55, Tryd.ntmps55
  go_wp2
  go_ret
  exact ⟨rfl, rfl⟩
/-- The digits of m; none for 0. -/
def digs (m : Nat) : List UInt8 := if m = 0 then [] else Lib.decDigits m
theorem digs_step {m : Nat} (h : m ≠ 0) : digs (m / 10) ++ [UInt8.ofNat (48 + m % 10)] = digs m := by
  unfold digs
  rw [if_neg h]
  conv => rhs; rw [Lib.decDigits]
  by_cases h10 : m < 10
  · rw [dif_pos h10, if_pos (by omega), Nat.mod_eq_of_lt h10]
    rfl
  · rw [dif_neg h10, if_neg (by omega)]
theorem digs_len {m : Nat} (h : m ≤ 9223372036854775807) : (digs m).length ≤ 20 := by
  unfold digs
  split
  · simp
  · rw [Lib.decDigits_length]
    exact Lib.nDigits_le20 m (by omega)
theorem specFormatInt_any (n : Nat) (h1 : n ≤ 9223372036854775807) (w : World) :
    Calls Tryd.prog 39 #[.int .i64 (n : Int)] w fun e w' => e = .returned (.string ⟨(Lib.itoa (n : Int)).toArray⟩) ∧ Below w.heap.size w w' := by
  have hit : Lib.itoa (n : Int) = Lib.decDigits n := by unfold Lib.itoa; rw [if_neg (by omega)]; simp
  rw [hit]
  clear hit
  by_cases hn : n = 0
  · subst hn
    have hd : Lib.decDigits 0 = [48] := by rw [Lib.decDigits]; rfl
    rw [hd]
    go_enter Tryd.func39, Tryd.ntmps39
    go_wp2
    go_ret
    exact ⟨rfl, Below.refl _ _⟩
  · have hdn : digs n = Lib.decDigits n := if_neg hn
    rw [← hdn]
    clear hdn
    have hn0 : ¬ (n : Int) = 0 := by omega
    have hnb : ((n : Int) == 0) = false := beq_eq_false_iff_ne.2 hn0
    have hb0 := Below.refl w.heap.size w
    go_enter Tryd.func39, Tryd.ntmps39
    go_wp2_with (fail)
    go_loopw [0, 4] (fun m s wr => ∃ (k : Nat) (t : ByteArray), k ≤ n ∧ m = .int .i64 k ∧ s = .string t ∧ Below w.heap.size w wr ∧ Hid (digs k ++ t.data.toList = digs n)) (fun m _ _ => (intOf m).toNat)
    case atStart => exact ⟨n, ⟨#[]⟩, Nat.le_refl _, rfl, rfl, hb0, by show _ = _; simp⟩
    case round =>
      clear hb0
      obtain ⟨k, t, hk, rfl, rfl, hB, H⟩ := hrel
      by_cases hk0 : k = 0
      · subst hk0
        have ht : t = ⟨(digs n).toArray⟩ := str_of (by have := H.out; simpa [digs] using this)
        subst ht
        go_wp2_with (fail)
        go_ret
        exact ⟨rfl, hB⟩
      · have hk0' : ¬ (k : Int) = 0 := by omega
        obtain ⟨d, hd⟩ : ∃ d, k % 10 = d := ⟨_, rfl⟩
        have hd10 : d < 10 := by omega
        obtain ⟨q, hq⟩ : ∃ q, k / 10 = q := ⟨_, rfl⟩
        have hqk : q < k := by omega
        have hdn : ¬ (d : Int) < 0 := by omega
        have hdb : decide ((d : Int) < 0) = false := decide_eq_false hdn
        have hkb : ((k : Int) != 0) = true := bne_iff_ne.2 hk0'
        have hm3 : (k : Int).tmod 10 = (d : Int) := by rw [Int.tmod_eq_emod_of_nonneg (by omega)]; omega
        have hd3 : (k : Int).tdiv 10 = (q : Int) := by rw [Int.tdiv_eq_ediv_of_nonneg (by omega)]; omega
        have hts : t.size ≤ 20 := by
          have h2 := congrArg List.length H.out
          have h3 : (digs n).length ≤ 20 := digs_len h1
          rw [List.length_append] at h2
          rw [Lib.size_eq]
          omega
        have hlim : ¬ 9223372036854775807 < 1 + t.size := by omega
        have HN : Hid (digs q ++ (UInt8.ofNat (48 + d) :: t.data.toList) = digs n) := by
          show _ = _
          rw [← H.out, ← digs_step hk0, hq, hd]
          simp
        clear H
        have hu : ((UInt8.ofNat (48 + d)).toNat : Int) = 48 + (d : Int) := by
          rw [UInt8.toNat_ofNat']
          omega
        generalize UInt8.ofNat (48 + d) = cb at hu HN
        have hcv : (convert 46 9 (.slice (some ⟨wr.heap.size, 0, none⟩) 1 1)).run Tryd.prog (wr.alloc (.cells #[.int .u8 (48 + (d : Int))] 5)) = .ok (.string ⟨#[cb]⟩) (wr.alloc (.cells #[.int .u8 (48 + (d : Int))] 5)) :=
          run_convert_bytes_back (P := Tryd.prog) _ _ _ 5 ⟨wr.heap.size, 0, none⟩ 1 [cb] Tryd.underlying46 Tryd.underlying5 Tryd.underlying9 (fun j hj => by
            simp at hj
            subst hj
            simp only [List.getElem_cons_zero, hu]
            simp [Addr.add])
        go_wp2_with (fail)
        refine (l01Figure_any (d : Int) (by omega) (by omega) _).mono ?_
        rintro e w9 ⟨rfl, rfl⟩
        go_wp2_with (fail)
        exact ⟨⟨q, _, by omega, rfl, rfl, hB.alloc hB.size _, by show _ = _; rw [data_add]; exact HN.out⟩, by simp [intOf]; omega⟩
end Go.Proofs.YtkkcglncjdoacaaDoor
