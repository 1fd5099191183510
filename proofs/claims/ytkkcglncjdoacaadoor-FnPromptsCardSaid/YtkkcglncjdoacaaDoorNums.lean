/- The walks of NumbersText: numbers with commas between them. -/
import Derived.Test.YtkkcglncjdoacaaDoorNum
import Derived.Test.YtkkcglncjdoacaaDoorAll
namespace Go.Proofs.YtkkcglncjdoacaaDoor
open Go.ChangeShapes Go.WideShapes Go.ChangeAt Go.RowKit Go.Joins Go.Deep Go.Sort
set_option linter.unusedSimpArgs false
set_option linter.unusedVariables false
set_option maxRecDepth 20000

def numsOk (zs : List Int) : Bool := decide (zs.length ≤ 20) && zs.all fun z => decide (0 ≤ z)
def numsL (zs : List Int) : List UInt8 := if numsOk zs = true then Lib.join (zs.map Lib.itoa) [44] else []
theorem numsL_ok {zs : List Int} (h : zs.length ≤ 20) (h0 : ∀ z ∈ zs, 0 ≤ z) : numsL zs = Lib.join (zs.map Lib.itoa) [44] := by
  refine if_pos ?_
  unfold numsOk
  rw [decide_eq_true h, Bool.true_and]
  exact List.all_eq_true.2 fun z hz => decide_eq_true (h0 z hz)
theorem numsL_long {zs : List Int} (h : ¬ zs.length ≤ 20) : numsL zs = [] := by
  refine if_neg ?_
  unfold numsOk
  rw [decide_eq_false h]
  simp
theorem numsL_neg {zs : List Int} {z : Int} (hz : z ∈ zs) (h : z < 0) : numsL zs = [] := by
  refine if_neg fun hh => ?_
  unfold numsOk at hh
  rw [Bool.and_eq_true] at hh
  have := of_decide_eq_true (List.all_eq_true.1 hh.2 z hz)
  omega
theorem join_snoc (xs : List (List UInt8)) (y sep : List UInt8) : Lib.join (xs ++ [y]) sep = if xs = [] then y else Lib.join xs sep ++ sep ++ y := by
  cases xs with
  | nil => simp [Lib.join_one]
  | cons x r =>
    rw [if_neg (by simp), List.cons_append, Lib.join_cons, Lib.join_cons]
    simp [Lib.joinTail]
theorem take_one {zs : List Int} {k : Nat} {x : Int} (h : zs[k]? = some x) : zs.take (k + 1) = zs.take k ++ [x] := by
  have hk := (List.getElem?_eq_some_iff.1 h).1
  rw [List.take_succ_eq_append_getElem hk]
  congr 1
  simp [(List.getElem?_eq_some_iff.1 h).2]
/-- What is told of the text of the first k numbers. -/
structure NumK (zs : List Int) (k : Nat) (t : ByteArray) : Prop where
  txt : t.data.toList = Lib.join ((zs.take k).map Lib.itoa) [44]
  len : 0 < k → zs.length ≤ 20
  pos : ∀ z ∈ zs.take k, 0 ≤ z
  sz : t.size ≤ 22 * k
theorem NumK.end {zs : List Int} {k : Nat} {t : ByteArray} (h : NumK zs k t) (hk : k = zs.length) : t = ⟨(numsL zs).toArray⟩ := by
  subst hk
  have h1 := h.txt
  have h2 := h.pos
  rw [List.take_length] at h1 h2
  refine str_of ?_
  rw [h1, numsL_ok ?_ h2]
  by_cases h0 : 0 < zs.length
  · exact h.len h0
  · omega
theorem itoa_len {n : Nat} (h : n ≤ 9223372036854775807) : (Lib.itoa (n : Int)).length ≤ 21 := Lib.itoa_length_le n (by omega) (by omega)
theorem NumK.next {zs : List Int} {k n : Nat} {t t' : ByteArray} (h : NumK zs k t) (hx : zs[k]? = some (n : Int)) (hn : n ≤ 9223372036854775807) (hl : zs.length ≤ 20)
    (ht : t'.data.toList = (if k = 0 then t.data.toList else t.data.toList ++ [44]) ++ Lib.itoa (n : Int)) : NumK zs (k + 1) t' := by
  have hk := (List.getElem?_eq_some_iff.1 hx).1
  have hz : ((zs.take k).map Lib.itoa = []) ↔ k = 0 := by
    rw [List.map_eq_nil_iff, List.take_eq_nil_iff]
    constructor
    · rintro (h | h)
      · exact h
      · rw [h] at hk
        simp at hk
    · exact fun h => .inl h
  refine ⟨?_, fun _ => hl, fun z hzm => ?_, ?_⟩
  · rw [take_one hx, List.map_append, List.map_cons, List.map_nil, join_snoc, ht, h.txt]
    by_cases h0 : k = 0
    · rw [if_pos h0, if_pos (hz.2 h0)]
      subst h0
      simp [Lib.join_nil]
    · rw [if_neg h0, if_neg (fun e => h0 (hz.1 e))]
  · rw [take_one hx] at hzm
    rcases List.mem_append.1 hzm with hzm | hzm
    · exact h.pos z hzm
    · rw [List.mem_singleton] at hzm
      omega
  · have h1 := itoa_len hn
    have h2 := h.sz
    rw [Lib.size_eq] at h2 ⊢
    rw [ht]
    split <;> simp only [List.length_append, List.length_cons, List.length_nil] <;> omega

theorem ret_str {a b : ByteArray} (h : a = b) : Ending.returned (.string a) = .returned (.string b) := by rw [h]
theorem specNumbersText_any (zs : List Int) (hz : ∀ z ∈ zs, -9223372036854775808 ≤ z ∧ z ≤ 9223372036854775807) (v : Value) (w : World) (h : RdI w v zs) :
    Calls Tryd.prog 10 #[v] w fun e w' => e = .returned (.string ⟨(numsL zs).toArray⟩) ∧ Below w.heap.size w w' := by
  obtain ⟨ad, cap, bl, off, rfl, hcap, hmax, had, hc⟩ := h.open
  have HC := Lib.hid hc
  have HZ := Lib.hid hz
  clear h hc hz
  have hb0 := Below.refl w.heap.size w
  go_enter Tryd.func10, Tryd.ntmps10
  go_wp2_with (fail)
  go_loopw [3, 4] (fun s i wr => ∃ (k : Nat) (t : ByteArray), k ≤ zs.length ∧ s = .string t ∧ i = .int .i64 k ∧ Below w.heap.size w wr ∧ Hid (NumK zs k t)) (fun _ i _ => zs.length - (intOf i).toNat)
  case atStart => exact ⟨0, ⟨#[]⟩, Nat.zero_le _, rfl, rfl, hb0, ⟨by simp [Lib.join_nil], fun h => absurd h (by omega), by simp, by decide⟩⟩
  case round =>
    clear hb0
    obtain ⟨k, t, hk, rfl, rfl, hB, H⟩ := hrel
    by_cases hlt : k < zs.length
    · obtain rfl := had (by omega)
      obtain ⟨x, hx⟩ : ∃ x, zs[k]? = some x := ⟨_, List.getElem?_eq_getElem hlt⟩
      have hck := cell_on hB (HC.out k hlt)
      have hgd : zs.getD k 0 = x := by rw [List.getD_eq_getElem?_getD, hx]; rfl
      rw [hgd] at hck
      obtain ⟨x0, x1⟩ := HZ.out x (List.mem_of_getElem? hx)
      have qk : (k : Int) < (zs.length : Int) := by omega
      by_cases hneg : x < 0
      · have hE : (⟨(numsL zs).toArray⟩ : ByteArray) = ⟨#[]⟩ := by rw [numsL_neg (List.mem_of_getElem? hx) hneg]
        have HE := Lib.hid hE
        clear hE hx H
        go_wp2_with (fail)
        go_ret
        exact ⟨ret_str HE.out.symm, hB⟩
      · obtain ⟨m, rfl⟩ : ∃ m : Nat, x = m := ⟨x.toNat, by omega⟩
        have hnb : decide ((m : Int) < 0) = false := decide_eq_false hneg
        by_cases hl : zs.length ≤ 20
        · have hl' : ¬ (20 : Int) < (zs.length : Int) := by omega
          have hsz := H.out.sz
          have hk20 : k ≤ 20 := by omega
          have hil := itoa_len (n := m) (by omega)
          have HX := Lib.hid hx
          have HF := Lib.hid (fun w' => specFormatInt_any m (by omega) w')
          obtain ⟨f, hf⟩ : ∃ f : ByteArray, (⟨(Lib.itoa (m : Int)).toArray⟩ : ByteArray) = f := ⟨_, rfl⟩
          have hfl : f.data.toList = Lib.itoa (m : Int) := by rw [← hf]
          have hfs : f.size ≤ 21 := by rw [Lib.size_eq, hfl]; exact hil
          rw [hf] at HF
          have HFL := Lib.hid hfl
          clear hx hf hfl hil
          by_cases hk0 : k = 0
          · subst hk0
            have hck0 := hck
            rw [Nat.add_zero] at hck0
            have HN : Hid (NumK zs (0 + 1) (t ++ f)) := H.out.next HX.out (by omega) hl (by rw [data_add, HFL.out]; rfl)
            have hs1 : ¬ 9223372036854775807 < t.size + f.size := by omega
            go_wp2_with (fail)
            refine (HF.out _).mono ?_
            rintro e w6 ⟨rfl, hb⟩
            replace hB := bvia hB hb
            clear hb
            go_wp2_with (fail)
            exact ⟨⟨1, _, by omega, rfl, by go_num, hB, HN.out⟩, by simp [intOf]; omega⟩
          · have HN : Hid (NumK zs (k + 1) ((t ++ ⟨#[44]⟩) ++ f)) := H.out.next HX.out (by omega) hl (by rw [data_add, data_add, HFL.out, if_neg hk0])
            have hk0' : (0 : Int) < (k : Int) := by omega
            have hs1 : ¬ 9223372036854775807 < t.size + 1 + f.size := by omega
            have hs2 : ¬ 9223372036854775807 < t.size + 1 := by omega
            go_wp2_with (fail)
            refine (HF.out _).mono ?_
            rintro e w6 ⟨rfl, hb⟩
            replace hB := bvia hB hb
            clear hb
            go_wp2_with (fail)
            exact ⟨⟨k + 1, _, by omega, rfl, by go_num, hB, HN.out⟩, by simp [intOf]; omega⟩
        · have hl' : (20 : Int) < (zs.length : Int) := by omega
          have hE : (⟨(numsL zs).toArray⟩ : ByteArray) = ⟨#[]⟩ := by rw [numsL_long hl]
          have HE := Lib.hid hE
          clear hE hx H
          go_wp2_with (fail)
          go_ret
          exact ⟨ret_str HE.out.symm, hB⟩
    · obtain rfl := H.out.end (by omega)
      go_wp2_with (fail)
      go_ret
      exact ⟨rfl, hB⟩
theorem lens_le : ∀ (zs : List Int), (∀ z ∈ zs, -9223372036854775808 ≤ z ∧ z ≤ 9223372036854775807) → Lib.lens (zs.map Lib.itoa) ≤ 21 * zs.length := by
  intro zs
  induction zs with
  | nil => intro _; simp [Lib.lens]
  | cons z r ih =>
    intro h
    have h1 := ih fun x hx => h x (by simp [hx])
    have h2 := Lib.itoa_length_le z (h z (by simp)).1 (h z (by simp)).2
    simp only [List.map_cons, Lib.lens, List.sum_cons, List.length_cons] at h1 ⊢
    omega
theorem join_small {zs : List Int} (hl : zs.length ≤ 20) (h0 : ∀ z ∈ zs, 0 ≤ z) (hz : ∀ z ∈ zs, -9223372036854775808 ≤ z ∧ z ≤ 9223372036854775807) : (Lib.join (zs.map Lib.itoa) [44]).length ≤ 140737488355328 := by
  cases zs with
  | nil => simp [Lib.join_nil]
  | cons z r =>
    have h1 := lens_le (z :: r) hz
    rw [List.map_cons, Lib.join_length]
    simp only [List.length_cons, List.length_nil, List.length_map, List.map_cons] at hl h1 ⊢
    omega
theorem implNumbersText_any (zs : List Int) (hz : ∀ z ∈ zs, -9223372036854775808 ≤ z ∧ z ≤ 9223372036854775807) (v : Value) (w : World) (h : RdI w v zs) (ht : Pow10 w) :
    Calls Tryd.prog 12 #[v] w fun e w' => e = .returned (.string ⟨(numsL zs).toArray⟩) ∧ Below w.heap.size w w' := by
  obtain ⟨ad, cap, bl, off, rfl, hcap, hmax, had, hc⟩ := h.open
  have HC := Lib.hid hc
  have HZ := Lib.hid hz
  have HT := Lib.hid ht
  clear h hc hz ht
  have hb0 := Below.refl w.heap.size w
  by_cases hl : zs.length ≤ 20
  · have hl' : ¬ (20 : Int) < (zs.length : Int) := by omega
    have he0 := OwStr.empty w w.heap.size (Nat.le_refl _)
    have hb1 := below_alloc1 w (.cells #[] 9)
    go_enter Tryd.func12, Tryd.ntmps12
    go_wp2_with (fail)
    go_loopw [3, 12] (fun u i wr => ∃ (k : Nat) (xs : List ByteArray), k ≤ zs.length ∧ i = .int .i64 k ∧ OwStr wr w.heap.size u xs ∧ Below w.heap.size w wr ∧ Hid (xs.map (·.data.toList) = (zs.take k).map Lib.itoa ∧ ∀ z ∈ zs.take k, 0 ≤ z)) (fun _ i _ => zs.length - (intOf i).toNat)
    case atStart => exact ⟨0, [], Nat.zero_le _, rfl, he0, hb1, by simp, by simp⟩
    case round =>
      clear hb0 hb1 he0
      obtain ⟨k, xs, hk, rfl, ho, hB, H⟩ := hrel
      have hxl : xs.length = k := by
        have := congrArg List.length H.out.1
        simp only [List.length_map, List.length_take] at this
        omega
      by_cases hlt : k < zs.length
      · obtain rfl := had (by omega)
        obtain ⟨x, hx⟩ : ∃ x, zs[k]? = some x := ⟨_, List.getElem?_eq_getElem hlt⟩
        have hck := cell_on hB (HC.out k hlt)
        have hgd : zs.getD k 0 = x := by rw [List.getD_eq_getElem?_getD, hx]; rfl
        rw [hgd] at hck
        obtain ⟨x0, x1⟩ := HZ.out x (List.mem_of_getElem? hx)
        have qk : (k : Int) < (zs.length : Int) := by omega
        by_cases hneg : x < 0
        · have hE : (⟨(numsL zs).toArray⟩ : ByteArray) = ⟨#[]⟩ := by rw [numsL_neg (List.mem_of_getElem? hx) hneg]
          have HE := Lib.hid hE
          clear hE hx H
          go_wp2_with (fail)
          go_ret
          exact ⟨ret_str HE.out.symm, hB⟩
        · obtain ⟨f, hf⟩ : ∃ f : ByteArray, (⟨(Lib.itoa x).toArray⟩ : ByteArray) = f := ⟨_, rfl⟩
          have hfl : f.data.toList = Lib.itoa x := by rw [← hf]
          have HF := Lib.hid (fun w' h => implFormatInt_any x x0 x1 w' h)
          rw [hf] at HF
          have HN : Hid ((xs ++ [f]).map (·.data.toList) = (zs.take (k + 1)).map Lib.itoa ∧ ∀ z ∈ zs.take (k + 1), 0 ≤ z) := by
            rw [take_one hx]
            refine ⟨?_, fun z hzm => ?_⟩
            · rw [List.map_append, List.map_append, H.out.1, List.map_cons, List.map_nil, List.map_cons, List.map_nil, hfl]
            · rcases List.mem_append.1 hzm with hzm | hzm
              · exact H.out.2 z hzm
              · rw [List.mem_singleton] at hzm
                omega
          clear H hx hf hfl
          have hwr := hB.size
          go_wp2_with (fail)
          refine (HF.out _ (tabIs_below HT.out hB)).mono ?_
          rintro e w6 ⟨rfl, hb⟩
          replace hB := bvia hB hb
          replace ho := ho.below hb
          have hwr6 := hB.size
          clear hb
          go_wp2_with (at_builtin; refine wpList_pushS rfl (.tmp 18) (.tmp 21) rfl _ f w.heap.size _ xs rfl ho rfl (by omega) hwr6 ?_; intro v7 w7 o7 hg7 _; have hB7 := ho.grown_below hB (Nat.le_refl _) hg7)
          exact ⟨⟨k + 1, xs ++ [f], by omega, by go_num, o7, hB7, HN.out⟩, by simp [intOf]; omega⟩
      · have hkl : k = zs.length := by omega
        subst hkl
        have h1 := H.out.1
        have h2 := H.out.2
        rw [List.take_length] at h1 h2
        have hN : numsL zs = Lib.join (xs.map (·.data.toList)) [44] := by rw [h1, numsL_ok hl h2]
        have hjl : (Lib.join (xs.map (·.data.toList)) [44]).length ≤ 140737488355328 := by
          rw [h1]
          exact join_small hl h2 HZ.out
        have HN := Lib.hid hN
        clear h1 h2 hN H
        rcases ho.open with ⟨rfl, rfl⟩ | ⟨g, cp, rfl, _, hgl, hcp, _, hcl⟩
        · go_wp2_with (fail)
          refine (Tryd.strings_Join_none none 0 ⟨#[44]⟩ _).mono ?_
          rintro e w6 ⟨rfl, rfl⟩
          go_wp2_with (fail)
          go_ret
          exact ⟨ret_str (by rw [HN.out]; rfl), hB⟩
        · have HJ := Lib.hid (Tryd.strings_Join g 0 cp xs ⟨#[44]⟩ wr hcl hgl (by omega) hcp hjl)
          clear hcl hxl
          go_wp2_with (fail)
          refine HJ.out.mono ?_
          rintro e w6 ⟨rfl, hb⟩
          go_wp2_with (fail)
          go_ret
          exact ⟨ret_str (by rw [HN.out]), bvia hB hb⟩
  · have hl' : (20 : Int) < (zs.length : Int) := by omega
    have hE : (⟨(numsL zs).toArray⟩ : ByteArray) = ⟨#[]⟩ := by rw [numsL_long hl]
    have HE := Lib.hid hE
    clear hE
    go_enter Tryd.func12, Tryd.ntmps12
    go_wp2_with (fail)
    go_ret
    exact ⟨ret_str HE.out.symm, hb0⟩
end Go.Proofs.YtkkcglncjdoacaaDoor
