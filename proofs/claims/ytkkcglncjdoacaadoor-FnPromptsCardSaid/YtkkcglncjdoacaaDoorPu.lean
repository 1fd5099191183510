/- ParseUint: the plain law and the walks. -/
import Derived.Test.YtkkcglncjdoacaaDoorNum
import Derived.Lib.Atoi
import Derived.Lib.AtoiErr
import Derived.Lib.AtoiBound
import Derived.Lib.AtoiErrMem
namespace Go.Proofs.YtkkcglncjdoacaaDoor
open Go.ChangeShapes Go.WideShapes Go.ChangeAt Go.RowKit Go.Joins Go.Deep Go.Sort
set_option linter.unusedSimpArgs false
set_option linter.unusedVariables false
set_option maxRecDepth 20000

/-- ParseUint: the number of a text that is a number's own numeral, up to 1000000000. -/
def puF (l : List UInt8) : Option Nat :=
  if l.length ≤ 10 then
    match Lib.decFrom 0 l with
    | some n => if n ≤ 1000000000 ∧ Lib.decDigits n = l then some n else none
    | none => none
  else none
theorem puF_some {l : List UInt8} {n : Nat} (h : puF l = some n) : l.length ≤ 10 ∧ Lib.decFrom 0 l = some n ∧ n ≤ 1000000000 ∧ Lib.decDigits n = l := by
  unfold puF at h
  split at h
  · rename_i h1
    split at h
    · rename_i m hm
      split at h
      · rename_i h2
        cases h
        exact ⟨h1, hm, h2.1, h2.2⟩
      · cases h
    · cases h
  · cases h
theorem puF_of {l : List UInt8} {n : Nat} (h1 : l.length ≤ 10) (h2 : Lib.decFrom 0 l = some n) (h3 : n ≤ 1000000000) (h4 : Lib.decDigits n = l) : puF l = some n := by
  unfold puF
  rw [if_pos h1, h2]
  exact if_pos ⟨h3, h4⟩
theorem digits_dig : ∀ (n : Nat), ∀ b ∈ Lib.decDigits n, 48 ≤ b.toNat ∧ b.toNat ≤ 57 := by
  intro n
  induction n using Nat.strongRecOn with
  | ind n ih =>
    intro b hb
    rw [Lib.decDigits] at hb
    split at hb
    · rename_i h
      rw [List.mem_singleton] at hb
      subst hb
      rw [UInt8.toNat_ofNat']
      omega
    · rename_i h
      rcases List.mem_append.1 hb with hb | hb
      · exact ih (n / 10) (by omega) b hb
      · rw [List.mem_singleton] at hb
        subst hb
        rw [UInt8.toNat_ofNat']
        omega
theorem digits_ne (n : Nat) : Lib.decDigits n ≠ [] := by
  rw [Lib.decDigits]
  split <;> simp
/-- Atoi of a numeral. -/
theorem atoi_digits {l : List UInt8} {n : Nat} (h : Lib.decDigits n = l) : Lib.atoi l = (Lib.decFrom 0 l).map fun (m : Nat) => (m : Int) := by
  cases l with
  | nil => exact absurd h (digits_ne n)
  | cons b r =>
    have hb := digits_dig n b (by rw [h]; simp)
    have h45 : (b == 45) = false := beq_eq_false_iff_ne.2 (by rintro rfl; exact absurd hb.1 (by decide))
    have h43 : (b == 43) = false := beq_eq_false_iff_ne.2 (by rintro rfl; exact absurd hb.1 (by decide))
    unfold Lib.atoi
    simp only [h45, h43]
    simp [Lib.decNat]
theorem puF_atoi {l : List UInt8} {n : Nat} (h : puF l = some n) : Lib.atoi l = some (n : Int) := by
  obtain ⟨_, h2, _, h4⟩ := puF_some h
  rw [atoi_digits h4, h2]
  rfl
theorem puF_no {l : List UInt8} {v : Int} (h : puF l = none) (hl : l.length ≤ 10) (ha : Lib.atoi l = some v) (h0 : 0 ≤ v) (h1 : v ≤ 1000000000) : Lib.itoa v ≠ l := by
  intro hi
  obtain ⟨n, rfl⟩ : ∃ n : Nat, v = n := ⟨v.toNat, by omega⟩
  have hd : Lib.decDigits n = l := by
    rw [← hi]
    unfold Lib.itoa
    rw [if_neg (by omega)]
    simp
  rw [atoi_digits hd] at ha
  cases hf : Lib.decFrom 0 l with
  | none => rw [hf] at ha; cases ha
  | some m =>
    rw [hf] at ha
    simp only [Option.map_some, Option.some.injEq] at ha
    have hmn : m = n := by omega
    subst hmn
    rw [puF_of hl hf (by omega) hd] at h
    cases h
theorem digit_val {b : UInt8} {d : Nat} (h : Lib.digitVal b = some d) : b.toNat = 48 + d ∧ d ≤ 9 := by
  have := Lib.digitVal_eq h
  omega
theorem digit_no {l : List UInt8} {k : Nat} {b : UInt8} (hb : l[k]? = some b) (h : Lib.digitVal b = none) : puF l = none := by
  cases hp : puF l with
  | none => rfl
  | some n =>
    obtain ⟨_, h2, _, _⟩ := puF_some hp
    obtain ⟨d, hd⟩ := Lib.digit_of_decFrom l 0 n h2 k b hb
    rw [h] at hd
    cases hd
theorem puF_long {l : List UInt8} (h : ¬ l.length ≤ 10) : puF l = none := by
  unfold puF
  rw [if_neg h]
/-- What ParseUint hands back. -/
def puV (l : List UInt8) : Value := match puF l with
  | some n => .tuple #[.int .i64 (n : Int), .bool true]
  | none => .tuple #[.int .i64 0, .bool false]
theorem puV_no {l : List UInt8} (h : puF l = none) : puV l = .tuple #[.int .i64 0, .bool false] := by unfold puV; rw [h]
theorem puV_yes {l : List UInt8} {n : Nat} (h : puF l = some n) : puV l = .tuple #[.int .i64 (n : Int), .bool true] := by unfold puV; rw [h]
theorem toList_inj {a b : ByteArray} (h : a.toList = b.toList) : a = b := str_eq (by rw [← ByteArray.toList_eq, ← ByteArray.toList_eq, h])
theorem ret_val {a b : Value} (h : a = b) : Ending.returned a = .returned b := by rw [h]
theorem specParseUint_any (s : ByteArray) (hs : s.size ≤ 1099511627776) (w : World) :
    Calls Tryd.prog 50 #[.string s] w fun e w' => e = .returned (puV s.data.toList) ∧ Below w.heap.size w w' := by
  have hb0 := Below.refl w.heap.size w
  by_cases hl : s.size ≤ 10
  · have hl' : ¬ (10 : Int) < (s.size : Int) := by omega
    go_enter Tryd.func50, Tryd.ntmps50
    go_wp2_with (fail)
    go_loopw [4, 5] (fun n i wr => ∃ (k m : Nat), k ≤ s.size ∧ n = .int .i64 m ∧ i = .int .i64 k ∧ w = wr ∧ Hid (Lib.decFrom 0 (s.data.toList.take k) = some m)) (fun _ i _ => s.size - (intOf i).toNat)
    case atStart => exact ⟨0, 0, Nat.zero_le _, rfl, rfl, rfl, by show _ = _; simp [Lib.decFrom]⟩
    case round =>
      obtain ⟨k, m, hk, rfl, rfl, rfl, H⟩ := hrel
      have hm := Lib.decFrom_lt _ 0 m H.out
      have hm10 : m < 10 ^ 10 := by
        refine Nat.lt_of_lt_of_le hm ?_
        rw [Nat.zero_add, Nat.one_mul]
        exact Nat.pow_le_pow_right (by omega) (by rw [List.length_take]; omega)
      have hm11 : m < 10000000000 := by simpa using hm10
      by_cases hlt : k < s.size
      · have hlt' : (k : Int) < (s.size : Int) := by omega
        have hbk : s.data.toList[k]? = some s[k] := Lib.data_getElem? s k hlt
        cases hdv : Lib.digitVal s[k] with
        | none =>
          have HE := Lib.hid (puV_no (digit_no hbk hdv))
          clear H hbk hm hm10
          rcases Lib.digitVal_none hdv with hlo | hhi
          · have q1 : ((s[k].toNat : Nat) : Int) < 48 := by omega
            clear hdv hlo
            go_wp2_with (fail)
            go_ret2
            exact ⟨ret_val HE.out.symm, hb0⟩
          · have q1 : ¬ ((s[k].toNat : Nat) : Int) < 48 := by omega
            have q2 : 57 < ((s[k].toNat : Nat) : Int) := by omega
            clear hdv hhi
            go_wp2_with (fail)
            go_ret2
            exact ⟨ret_val HE.out.symm, hb0⟩
        | some d =>
          obtain ⟨hd1, hd2⟩ := digit_val hdv
          have HN := Lib.hid (Lib.decFrom_take s.data.toList k 0 m s[k] d H.out hbk hdv)
          have q1 : ¬ ((s[k].toNat : Nat) : Int) < 48 := by omega
          have q2 : ¬ 57 < ((s[k].toNat : Nat) : Int) := by omega
          have q3 : 10 * (m : Int) + ((s[k].toNat : Nat) : Int) - 48 = ((m * 10 + d : Nat) : Int) := by omega
          have q4 : ((s[k].toNat : Nat) : Int) ≤ 57 := by omega
          have q5 : 48 ≤ ((s[k].toNat : Nat) : Int) := by omega
          clear hdv H hbk hm hm10 hd1
          go_wp2_with (fail)
          exact ⟨⟨k + 1, m * 10 + d, by omega, by go_num, by go_num, trivial, HN.out⟩, by simp [intOf]; omega⟩
      · have hks : k = s.size := by omega
        have HD : Hid (Lib.decFrom 0 s.data.toList = some m) := by
          have h := H.out
          rw [List.take_of_length_le (by rw [← Lib.size_eq]; omega)] at h
          exact h
        clear H hm hm10
        have hlt' : ¬ (k : Int) < (s.size : Int) := by omega
        by_cases hbig : m ≤ 1000000000
        · have q1 : ¬ (1000000000 : Int) < (m : Int) := by omega
          have HF := Lib.hid (fun w' => specFormatInt_any m (by omega) w')
          have hit : Lib.itoa (m : Int) = Lib.decDigits m := by unfold Lib.itoa; rw [if_neg (by omega)]; simp
          obtain ⟨f, hf⟩ : ∃ f : ByteArray, (⟨(Lib.itoa (m : Int)).toArray⟩ : ByteArray) = f := ⟨_, rfl⟩
          have hfl : f.data.toList = Lib.decDigits m := by rw [← hf, ← hit]
          rw [hf] at HF
          by_cases hfs : f = s
          · have HE := Lib.hid (puV_yes (l := s.data.toList) (n := m) (puF_of (by rw [← Lib.size_eq]; exact hl) HD.out hbig (by rw [← hfs]; exact hfl.symm)))
            have hbq : (f.toList == s.toList) = true := by rw [hfs]; exact beq_self_eq_true _
            clear hf hfl hit hfs
            go_wp2_with (fail)
            refine (HF.out _).mono ?_
            rintro e w2 ⟨rfl, hb⟩
            go_wp2_with (fail)
            go_ret2
            exact ⟨ret_val HE.out.symm, hb⟩
          · have HE : Hid (puV s.data.toList = .tuple #[.int .i64 0, .bool false]) := by
              refine puV_no ?_
              cases hp : puF s.data.toList with
              | none => rfl
              | some n =>
                obtain ⟨_, h2, _, h4⟩ := puF_some hp
                rw [HD.out] at h2
                cases h2
                exact absurd (str_eq (by rw [hfl, h4])) hfs
            have hbq : (f.toList == s.toList) = false := beq_eq_false_iff_ne.2 fun e => hfs (toList_inj e)
            clear hf hfl hit hfs
            go_wp2_with (fail)
            refine (HF.out _).mono ?_
            rintro e w2 ⟨rfl, hb⟩
            go_wp2_with (fail)
            go_ret2
            exact ⟨ret_val HE.out.symm, hb⟩
        · have q1 : (1000000000 : Int) < (m : Int) := by omega
          have HE : Hid (puV s.data.toList = .tuple #[.int .i64 0, .bool false]) := by
            refine puV_no ?_
            cases hp : puF s.data.toList with
            | none => rfl
            | some n =>
              obtain ⟨_, h2, h3, h4⟩ := puF_some hp
              rw [HD.out] at h2
              cases h2
              exact absurd h3 hbig
          go_wp2_with (fail)
          go_ret2
          exact ⟨ret_val HE.out.symm, hb0⟩
  · have hl' : (10 : Int) < (s.size : Int) := by omega
    have HE := Lib.hid (puV_no (puF_long (l := s.data.toList) (by rw [← Lib.size_eq]; exact hl)))
    go_enter Tryd.func50, Tryd.ntmps50
    go_wp2_with (fail)
    go_ret2
    exact ⟨ret_val HE.out.symm, hb0⟩
/-- strconv.ErrSyntax holds an error, as start-up laid it. -/
abbrev HasErr (w : World) : Prop := ∃ te pe, w.cell? ⟨1, 0, none⟩ = some (.iface te pe)
theorem HasErr.below {w w' : World} (h : HasErr w) (hb : Below w.heap.size w w') : HasErr w' := by
  obtain ⟨te, pe, h⟩ := h
  exact ⟨te, pe, cell_on hb h⟩
theorem implParseUint_any (s : ByteArray) (hs : s.size ≤ 1099511627776) (w : World) (ht : Pow10 w) (he : HasErr w) :
    Calls Tryd.prog 52 #[.string s] w fun e w' => e = .returned (puV s.data.toList) ∧ Below w.heap.size w w' := by
  have hb0 := Below.refl w.heap.size w
  by_cases hl : s.size ≤ 10
  · have hl' : ¬ (10 : Int) < (s.size : Int) := by omega
    have hll : s.data.toList.length ≤ 10 := by rw [← Lib.size_eq]; exact hl
    have HT := Lib.hid ht
    cases ha : Lib.atoi s.data.toList with
    | none =>
      obtain ⟨te, pe, hce⟩ := he
      have HE : Hid (puV s.data.toList = .tuple #[.int .i64 0, .bool false]) := by
        refine puV_no ?_
        cases hp : puF s.data.toList with
        | none => rfl
        | some n =>
          have := puF_atoi hp
          rw [ha] at this
          cases this
      have HA := Lib.hid (Tryd.strconv_Atoi_err s (by omega) ha (.iface te pe) w hce (.inr ⟨te, pe, rfl⟩))
      clear ht ha hce
      go_enter Tryd.func52, Tryd.ntmps52
      go_wp2_with (fail)
      refine HA.out.mono ?_
      rintro e w1 ⟨N, rfl, _, _, hb⟩
      go_wp2_with (fail)
      go_ret2
      exact ⟨ret_val HE.out.symm, hb⟩
    | some v =>
      have hvb := Lib.atoi_bound ha (by omega)
      have HA := Lib.hid (Tryd.strconv_Atoi s v (by omega) ha w)
      have HF := Lib.hid (fun w' h => implFormatInt_any v (by omega) (by omega) w' h)
      obtain ⟨f, hf⟩ : ∃ f : ByteArray, (⟨(Lib.itoa v).toArray⟩ : ByteArray) = f := ⟨_, rfl⟩
      have hfl : f.data.toList = Lib.itoa v := by rw [← hf]
      rw [hf] at HF
      have cw : ∀ (b : Bool), inB v 0 1000000000 = b → Hid (∀ u, Calls Tryd.prog 45 #[.int .i64 v, .int .i64 0, .int .i64 1000000000] u fun e w' => e = .returned (.bool b) ∧ u = w') := fun b hb u => by have := within_any v 0 1000000000 u; rwa [hb] at this
      cases hin : inB v 0 1000000000 with
      | false =>
        have hin' := inB_false.1 hin
        have HE : Hid (puV s.data.toList = .tuple #[.int .i64 0, .bool false]) := by
          refine puV_no ?_
          cases hp : puF s.data.toList with
          | none => rfl
          | some n =>
            have h2 := puF_atoi hp
            rw [ha] at h2
            simp only [Option.some.injEq] at h2
            have := (puF_some hp).2.2.1
            omega
        have CW := cw false hin
        clear cw hin ht ha hf hfl hin'
        go_enter Tryd.func52, Tryd.ntmps52
        go_wp2_with (fail)
        refine HA.out.mono ?_
        rintro e w1 ⟨rfl, t, rfl⟩
        have hb := Lib.bytesWorld_below w 5 t
        generalize Lib.bytesWorld w 5 t = w1 at hb ⊢
        go_wp2_with (fail)
        refine (CW.out _).mono ?_
        rintro e w2 ⟨rfl, rfl⟩
        go_wp2_with (fail)
        go_ret2
        exact ⟨ret_val HE.out.symm, hb⟩
      | true =>
        obtain ⟨hv0, hv1⟩ := inB_true.1 hin
        have CW := cw true hin
        by_cases hfs : f = s
        · have HE : Hid (puV s.data.toList = .tuple #[.int .i64 v, .bool true]) := by
            obtain ⟨n, rfl⟩ : ∃ n : Nat, v = n := ⟨v.toNat, by omega⟩
            cases hp : puF s.data.toList with
            | none => exact absurd (by rw [← hfl, hfs]) (puF_no hp hll ha hv0 hv1)
            | some m =>
              have h2 := puF_atoi hp
              rw [ha] at h2
              simp only [Option.some.injEq] at h2
              have h3 : m = n := by omega
              subst h3
              exact puV_yes hp
          have hbq : (f.toList == s.toList) = true := by rw [hfs]; exact beq_self_eq_true _
          clear cw hin ht ha hf hfl hfs
          go_enter Tryd.func52, Tryd.ntmps52
          go_wp2_with (fail)
          refine HA.out.mono ?_
          rintro e w1 ⟨rfl, t, rfl⟩
          have hb := Lib.bytesWorld_below w 5 t
          generalize Lib.bytesWorld w 5 t = w1 at hb ⊢
          go_wp2_with (fail)
          refine (CW.out _).mono ?_
          rintro e w2 ⟨rfl, rfl⟩
          go_wp2_with (fail)
          refine (HF.out _ (tabIs_below HT.out hb)).mono ?_
          rintro e w3 ⟨rfl, hb3⟩
          go_wp2_with (fail)
          go_ret2
          exact ⟨ret_val HE.out.symm, bvia hb hb3⟩
        · have HE : Hid (puV s.data.toList = .tuple #[.int .i64 0, .bool false]) := by
            refine puV_no ?_
            cases hp : puF s.data.toList with
            | none => rfl
            | some m =>
              have h2 := puF_atoi hp
              rw [ha] at h2
              simp only [Option.some.injEq] at h2
              subst h2
              refine absurd (str_eq ?_) hfs
              rw [hfl, ← (puF_some hp).2.2.2]
              unfold Lib.itoa
              rw [if_neg (by omega)]
              simp
          have hbq : (f.toList == s.toList) = false := beq_eq_false_iff_ne.2 fun e => hfs (toList_inj e)
          clear cw hin ht ha hf hfl hfs
          go_enter Tryd.func52, Tryd.ntmps52
          go_wp2_with (fail)
          refine HA.out.mono ?_
          rintro e w1 ⟨rfl, t, rfl⟩
          have hb := Lib.bytesWorld_below w 5 t
          generalize Lib.bytesWorld w 5 t = w1 at hb ⊢
          go_wp2_with (fail)
          refine (CW.out _).mono ?_
          rintro e w2 ⟨rfl, rfl⟩
          go_wp2_with (fail)
          refine (HF.out _ (tabIs_below HT.out hb)).mono ?_
          rintro e w3 ⟨rfl, hb3⟩
          go_wp2_with (fail)
          go_ret2
          exact ⟨ret_val HE.out.symm, bvia hb hb3⟩
  · have hl' : (10 : Int) < (s.size : Int) := by omega
    have HE := Lib.hid (puV_no (puF_long (l := s.data.toList) (by rw [← Lib.size_eq]; exact hl)))
    go_enter Tryd.func52, Tryd.ntmps52
    go_wp2_with (fail)
    go_ret2
    exact ⟨ret_val HE.out.symm, hb0⟩
end Go.Proofs.YtkkcglncjdoacaaDoor
