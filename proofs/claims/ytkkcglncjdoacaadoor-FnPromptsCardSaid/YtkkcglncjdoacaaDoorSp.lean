/- A text cut at a byte: the plain law, the walk of l28Split, the library's Split. -/
import Derived.Test.YtkkcglncjdoacaaDoorPu
import Derived.Lib.Split
import Derived.Lib.SplitLaws
import Derived.Lib.IndexLaws
import Derived.Lib.IndexBytes
import Derived.Lib.Join
namespace Go.Proofs.YtkkcglncjdoacaaDoor
open Go.ChangeShapes Go.WideShapes Go.ChangeAt Go.RowKit Go.Joins Go.Deep Go.Sort
set_option linter.unusedSimpArgs false
set_option linter.unusedVariables false
set_option maxRecDepth 20000

/-- A text cut at a byte. -/
def splitP (c : UInt8) : List UInt8 → List (List UInt8)
  | [] => [[]]
  | b :: r => if b = c then [] :: splitP c r else match splitP c r with
    | h :: t => (b :: h) :: t
    | [] => [[b]]
theorem splitP_ne (c : UInt8) (l : List UInt8) : splitP c l ≠ [] := by
  cases l with
  | nil => simp [splitP]
  | cons b r =>
    unfold splitP
    split
    · simp
    · split <;> simp
theorem splitP_none {c : UInt8} {l : List UInt8} (h : ∀ b ∈ l, b ≠ c) : splitP c l = [l] := by
  induction l with
  | nil => rfl
  | cons b r ih =>
    unfold splitP
    rw [if_neg (h b (by simp)), ih fun x hx => h x (by simp [hx])]
theorem splitP_hit {c : UInt8} {p r : List UInt8} (h : ∀ b ∈ p, b ≠ c) : splitP c (p ++ c :: r) = p :: splitP c r := by
  induction p with
  | nil => simp [splitP]
  | cons b q ih =>
    rw [List.cons_append]
    conv => lhs; unfold splitP
    rw [if_neg (h b (by simp)), ih fun x hx => h x (by simp [hx])]
theorem join_split (c : UInt8) (l : List UInt8) : Lib.join (splitP c l) [c] = l := by
  induction l with
  | nil => simp [splitP, Lib.join_one]
  | cons b r ih =>
    unfold splitP
    split
    · rename_i h
      subst h
      cases hs : splitP b r with
      | nil => exact absurd hs (splitP_ne b r)
      | cons x t =>
        rw [hs] at ih
        rw [Lib.join_cons]
        rw [Lib.join_cons] at ih
        simp only [Lib.joinTail, List.map_cons, List.flatten_cons] at ih ⊢
        rw [← ih]
        simp
    · split
      · rename_i hs
        rw [hs, Lib.join_cons] at ih
        rw [Lib.join_cons, List.cons_append, ih]
      · rename_i hs
        exact absurd hs (splitP_ne c r)
theorem splitK_P (c : UInt8) (l : List UInt8) : Lib.splitK [c] 0 (l.count c) l = splitP c l := by
  induction l with
  | nil => simp [Lib.splitK, splitP]
  | cons b r ih =>
    unfold splitP
    by_cases h : b = c
    · subst h
      rw [if_pos rfl, List.count_cons_self]
      unfold Lib.splitK
      have hi : Lib.index (b :: r) [b] = 0 := by rw [Lib.index_one]; simp [Lib.indexByte]
      rw [hi]
      simp only [show ((0 : Int) == -1) = false by decide]
      rw [← ih]
      simp
    · rw [if_neg h, List.count_cons_of_ne (by simpa using h)]
      have hi : Lib.index (b :: r) [c] = if Lib.index r [c] = -1 then -1 else Lib.index r [c] + 1 := by
        rw [Lib.index_one, Lib.index_one]
        conv => lhs; unfold Lib.indexByte
        rw [if_neg (by simpa using h)]
        simp
      cases hk : r.count c with
      | zero =>
        rw [hk] at ih
        simp only [Lib.splitK] at ih ⊢
        rw [← ih]
      | succ k =>
        rw [hk] at ih
        have hmem : Lib.index r [c] ≠ -1 := by
          rw [Lib.index_one]
          intro e
          have hm : c ∈ r := List.count_pos_iff.1 (by omega)
          obtain ⟨j, hj, he⟩ := List.mem_iff_getElem.1 hm
          exact Lib.indexByte_none e j (by rw [List.getElem?_eq_getElem hj, he])
        have hge : -1 ≤ Lib.index r [c] := by rw [Lib.index_one]; exact Lib.indexByte_ge r c
        unfold Lib.splitK at ih ⊢
        rw [if_neg hmem] at hi
        have e1 : (Lib.index r [c] == -1) = false := beq_eq_false_iff_ne.2 hmem
        have e2 : (Lib.index (b :: r) [c] == -1) = false := beq_eq_false_iff_ne.2 (by rw [hi]; omega)
        rw [e1] at ih
        rw [e2]
        simp only [Bool.false_eq_true, if_false] at ih ⊢
        rw [← ih, hi]
        have h3 : (Lib.index r [c] + 1).toNat = (Lib.index r [c]).toNat + 1 := by omega
        rw [h3]
        rfl
theorem OwStr.base {w : World} {B B' : Nat} {v : Value} {zs : List ByteArray} (h : OwStr w B v zs) (hB : B' ≤ B) : OwStr w B' v zs := own_base h hB
/-- strings.Split at one byte. -/
theorem split_any (s : ByteArray) (c : UInt8) (m : Int) (w : World) (hs : s.size < 4294967281) (hm : w.cell? ⟨0, 0, none⟩ = some (.int .i64 m)) :
    Calls Tryd.prog 51 #[.string s, .string ⟨#[c]⟩] w fun e w' => ∃ u xs, e = .returned u ∧ OwStr w' w.heap.size u xs ∧ xs.map (·.data.toList) = splitP c s.data.toList ∧ Below w.heap.size w w' := by
  refine (Tryd.strings_Split s ⟨#[c]⟩ m w hs hm (Nat.le_refl 1)).mono ?_
  rintro e w' ⟨rfl, rfl⟩
  have hd := Lib.splitB_data ⟨#[c]⟩ 0 (Lib.countB s ⟨#[c]⟩) s
  have hlen := Lib.splitB_all ⟨#[c]⟩ (Nat.le_refl 1) 0 (Lib.countB s ⟨#[c]⟩) s rfl
  have hcb : Lib.countB s ⟨#[c]⟩ = s.data.toList.count c := by
    show Lib.count s.data.toList [c] = _
    exact Lib.count_one c _
  have hcl : Lib.countB s ⟨#[c]⟩ ≤ s.size := Lib.countB_le ⟨#[c]⟩ (Nat.le_refl 1) _ s (Nat.le_refl _)
  refine ⟨_, Lib.splitB ⟨#[c]⟩ 0 (Lib.countB s ⟨#[c]⟩) s, rfl, ?_, ?_, below_alloc1 _ _⟩
  · have h := World.ownsRow_lit (base := w.heap.size) (e := 9) (size := 1) w ((Lib.splitB ⟨#[c]⟩ 0 (Lib.countB s ⟨#[c]⟩) s).map Value.string).toArray (Lib.countB s ⟨#[c]⟩ + 1) (Nat.le_refl _) (by rw [maxLen_eq]; omega) (by simp [hlen])
    unfold OwStr
    rw [hlen]
    simpa [strs1] using h
  · rw [hd, hcb]
    exact splitK_P c _
theorem data_extract (s : ByteArray) (b k : Nat) (hk : k ≤ s.size) : (s.extract b k).data.toList = (s.data.toList.take k).drop b := by
  rw [ByteArray.data_extract]
  simp [List.drop_take]
/-- The pieces done, from the front; the rest is to be cut from b on, and up to k there is no cut. -/
structure SplK (c : UInt8) (l : List UInt8) (k b : Nat) (D : List (List UInt8)) : Prop where
  done : splitP c l = D ++ splitP c (l.drop b)
  none : ∀ x ∈ (l.take k).drop b, x ≠ c
  le : b ≤ k
theorem SplK.start (c : UInt8) (l : List UInt8) : SplK c l 0 0 [] := ⟨by simp, by simp, Nat.le_refl _⟩
theorem SplK.skip {c : UInt8} {l : List UInt8} {k b : Nat} {D : List (List UInt8)} (h : SplK c l k b D) {x : UInt8} (hx : l[k]? = some x) (hne : x ≠ c) : SplK c l (k + 1) b D := by
  refine ⟨h.done, fun y hy => ?_, by have := h.le; omega⟩
  have hk := (List.getElem?_eq_some_iff.1 hx).1
  have ht : l.take (k + 1) = l.take k ++ [x] := by
    rw [List.take_succ_eq_append_getElem hk]
    congr 1
    simp [(List.getElem?_eq_some_iff.1 hx).2]
  rw [ht, List.drop_append_of_le_length (by rw [List.length_take]; have := h.le; omega)] at hy
  rcases List.mem_append.1 hy with hy | hy
  · exact h.none y hy
  · rw [List.mem_singleton] at hy
    exact hy ▸ hne
theorem SplK.cut {c : UInt8} {l : List UInt8} {k b : Nat} {D : List (List UInt8)} (h : SplK c l k b D) (hx : l[k]? = some c) : SplK c l (k + 1) (k + 1) (D ++ [(l.take k).drop b]) := by
  have hk := (List.getElem?_eq_some_iff.1 hx).1
  have hb := h.le
  refine ⟨?_, ?_, Nat.le_refl _⟩
  · have hd : l.drop b = (l.take k).drop b ++ c :: l.drop (k + 1) := by
      have h1 : l = l.take k ++ c :: l.drop (k + 1) := by
        have h2 := List.drop_eq_getElem_cons hk
        rw [(List.getElem?_eq_some_iff.1 hx).2] at h2
        rw [← h2, List.take_append_drop]
      conv => lhs; rw [h1]
      rw [List.drop_append_of_le_length (by rw [List.length_take]; omega)]
    rw [h.done, hd, splitP_hit h.none]
    simp
  · intro y hy
    rw [List.drop_eq_nil_of_le (by rw [List.length_take]; omega)] at hy
    simp at hy
theorem SplK.end {c : UInt8} {l : List UInt8} {k b : Nat} {D : List (List UInt8)} (h : SplK c l k b D) (hk : k = l.length) : splitP c l = D ++ [(l.take k).drop b] := by
  have h1 := h.none
  rw [hk, List.take_length] at h1 ⊢
  rw [h.done, splitP_none h1]
theorem l28Split_any (s : ByteArray) (c : UInt8) (hs : s.size ≤ 4294967280) (w : World) :
    Calls Tryd.prog 49 #[.string s, .int .u8 (c.toNat : Int)] w fun e w' => ∃ u xs, e = .returned u ∧ OwStr w' w.heap.size u xs ∧ xs.map (·.data.toList) = splitP c s.data.toList ∧ Below w.heap.size w w' := by
  have he0 := OwStr.empty w w.heap.size (Nat.le_refl _)
  have hb1 := below_alloc1 w (.cells #[] 9)
  go_enter Tryd.func49, Tryd.ntmps49
  go_wp2_with (fail)
  go_loopw [5, 6, 7] (fun u b i wr => ∃ (k q : Nat) (xs : List ByteArray), k ≤ s.size + 1 ∧ xs.length ≤ k ∧ b = .int .i64 q ∧ i = .int .i64 k ∧ q ≤ k ∧ OwStr wr w.heap.size u xs ∧ Below w.heap.size w wr ∧ Hid ((k ≤ s.size → SplK c s.data.toList k q (xs.map (·.data.toList))) ∧ (k = s.size + 1 → xs.map (·.data.toList) = splitP c s.data.toList))) (fun _ _ i _ => s.size + 1 - (intOf i).toNat)
  case atStart => exact ⟨0, 0, [], by omega, by simp, rfl, rfl, Nat.le_refl _, he0, hb1, fun _ => SplK.start _ _, fun h => absurd h (by omega)⟩
  case round =>
    clear he0 hb1
    obtain ⟨k, q, xs, hk, hxl, rfl, rfl, hqk, ho, hB, H⟩ := hrel
    have hsz : s.data.toList.length = s.size := (Lib.size_eq s).symm
    by_cases hke : k ≤ s.size
    · have hle : (k : Int) ≤ (s.size : Int) := by omega
      by_cases hks : k = s.size
      · have hkb : ((k : Int) == (s.size : Int)) = true := by rw [hks]; exact beq_self_eq_true _
        have HKS := Lib.hid hks
        clear hks
        have hwr := hB.size
        have f1 : ¬ (s.size : Int) < (k : Int) := by omega
        have f2 : (q : Int) ≤ (k : Int) := by omega
        have f3 : (k : Int) ≤ (s.size : Int) := by omega
        have f4 : k ≤ s.size := by omega
        obtain ⟨f, hf⟩ : ∃ f : ByteArray, s.extract q k = f := ⟨_, rfl⟩
        have hsl : ∀ W, (Instr.slice 9 (.string s) (some (.int .i64 (q : Int))) (some (.int .i64 (k : Int))) none).run Tryd.prog W = .ok (.string f) W := fun W => by rw [← hf]; exact run_slice_string W _ s .i64 .i64 q k Tryd.underlying9 (by omega) (by omega) (by omega)
        have hfd : f.data.toList = (s.data.toList.take k).drop q := by rw [← hf]; exact data_extract s q k hke
        have HN : Hid ((k + 1 ≤ s.size → SplK c s.data.toList (k + 1) (k + 1) ((xs ++ [f]).map (·.data.toList))) ∧ (k + 1 = s.size + 1 → (xs ++ [f]).map (·.data.toList) = splitP c s.data.toList)) := ⟨fun h => absurd h (by have := HKS.out; omega), fun _ => by rw [List.map_append, List.map_cons, List.map_nil, hfd, (H.out.1 hke).end (by have := HKS.out; omega)]⟩
        clear H hfd
        go_wp2_with (at_builtin; refine wpList_pushS rfl (.tmp 26) (.tmp 31) rfl _ f w.heap.size _ xs rfl ho rfl (by omega) hwr ?_; intro v7 w7 o7 hg7 _; have hB7 := ho.grown_below hB (Nat.le_refl _) hg7)
        exact ⟨⟨k + 1, k + 1, xs ++ [f], by omega, by simp; omega, by go_num, by go_num, Nat.le_refl _, o7, hB7, HN.out⟩, by simp [intOf]; omega⟩
      · have hlt : k < s.size := by omega
        have hlt' : (k : Int) < (s.size : Int) := by omega
        have hkb : ((k : Int) == (s.size : Int)) = false := beq_eq_false_iff_ne.2 (by omega)
        have hkI : ¬ (k : Int) = (s.size : Int) := by omega
        have hbk : s.data.toList[k]? = some s[k] := Lib.data_getElem? s k hlt
        by_cases hc : s[k] = c
        · have hcb : (((s[k].toNat : Nat) : Int) == (c.toNat : Int)) = true := by rw [hc]; exact beq_self_eq_true _
          have hwr := hB.size
          have f1 : ¬ (s.size : Int) < (k : Int) := by omega
          have f2 : (q : Int) ≤ (k : Int) := by omega
          have f3 : (k : Int) ≤ (s.size : Int) := by omega
          have f4 : k ≤ s.size := by omega
          obtain ⟨f, hf⟩ : ∃ f : ByteArray, s.extract q k = f := ⟨_, rfl⟩
          have hsl : ∀ W, (Instr.slice 9 (.string s) (some (.int .i64 (q : Int))) (some (.int .i64 (k : Int))) none).run Tryd.prog W = .ok (.string f) W := fun W => by rw [← hf]; exact run_slice_string W _ s .i64 .i64 q k Tryd.underlying9 (by omega) (by omega) (by omega)
          have hfd : f.data.toList = (s.data.toList.take k).drop q := by rw [← hf]; exact data_extract s q k hke
          have HN : Hid ((k + 1 ≤ s.size → SplK c s.data.toList (k + 1) (k + 1) ((xs ++ [f]).map (·.data.toList))) ∧ (k + 1 = s.size + 1 → (xs ++ [f]).map (·.data.toList) = splitP c s.data.toList)) := ⟨fun _ => by rw [List.map_append, List.map_cons, List.map_nil, hfd]; exact (H.out.1 hke).cut (by rw [hbk, hc]), fun h => absurd h (by omega)⟩
          clear hbk hc
          clear H hfd
          go_wp2_with (at_builtin; refine wpList_pushS rfl (.tmp 26) (.tmp 31) rfl _ f w.heap.size _ xs rfl ho rfl (by omega) hwr ?_; intro v7 w7 o7 hg7 _; have hB7 := ho.grown_below hB (Nat.le_refl _) hg7)
          exact ⟨⟨k + 1, k + 1, xs ++ [f], by omega, by simp; omega, by go_num, by go_num, Nat.le_refl _, o7, hB7, HN.out⟩, by simp [intOf]; omega⟩
        · have hcb : (((s[k].toNat : Nat) : Int) == (c.toNat : Int)) = false := beq_eq_false_iff_ne.2 fun e => hc (UInt8.toNat_inj.1 (by omega))
          have HN : Hid ((k + 1 ≤ s.size → SplK c s.data.toList (k + 1) q (xs.map (·.data.toList))) ∧ (k + 1 = s.size + 1 → xs.map (·.data.toList) = splitP c s.data.toList)) := ⟨fun _ => (H.out.1 hke).skip hbk hc, fun h => absurd h (by omega)⟩
          clear H hbk hc
          go_wp2_with (fail)
          exact ⟨⟨k + 1, q, xs, by omega, by omega, rfl, by go_num, by omega, ho, hB, HN.out⟩, by simp [intOf]; omega⟩
    · have hle : ¬ (k : Int) ≤ (s.size : Int) := by omega
      have HN := Lib.hid (H.out.2 (by omega))
      clear H
      go_wp2_with (fail)
      go_ret
      exact ⟨_, rfl, xs, ho, HN.out, hB⟩
end Go.Proofs.YtkkcglncjdoacaaDoor
