/- Texts: slices of strings of the call's own; what a library call leaves. -/
import Derived.Test.YtkkcglncjdoacaaDoorApp
import Derived.Test.YtkkcglncjdoacaaDoorShelf
namespace Go.Proofs.YtkkcglncjdoacaaDoor
open Go.ChangeShapes Go.WideShapes Go.ChangeAt Go.RowKit Go.Joins Go.Deep Go.Sort
set_option linter.unusedSimpArgs false
set_option linter.unusedVariables false
set_option maxRecDepth 20000

theorem below_drewS {B : Nat} {a w : World} (h : Below B a w) (n : Nat) : Below B a (w.drewN n) := ⟨h.os, h.tape, h.output, h.size, h.block⟩
theorem below_growS (w : World) (k : Nat) (os : Array Obj) : Below w.heap.size w (grow (w.drewN k) os) := by
  have h := below_drewS (Below.refl w.heap.size w) k
  refine ⟨h.os, h.tape, h.output, ?_, fun j hj => ?_⟩
  · have := h.size
    simp only [grow, Array.size_append]
    omega
  · rw [← h.block j hj]
    have hs := h.size
    simp only [grow]
    rw [Array.getElem?_append_left (by omega)]
theorem tabIs_below {P : Program} {w w' : World} {name : String} {k : IntKind} {zs : List Int} (h : Lib.TabIs P w name k zs) (hb : Below w.heap.size w w') : Lib.TabIs P w' name k zs := by
  unfold Lib.TabIs World.var? at *
  cases hg : P.globalNamed name with
  | none => simp [hg] at h
  | some g =>
    simp only [hg, Option.bind_some] at h ⊢
    have hlt : g < w.heap.size := by
      rcases Nat.lt_or_ge g w.heap.size with h' | h'
      · exact h'
      · rw [Array.getElem?_eq_none h'] at h
        simp at h
    rw [hb.block g hlt]
    exact h
/-- The table of the powers of ten, as the library's Itoa wants it. -/
abbrev Pow10 (w : World) : Prop := Lib.TabIs Tryd.prog w "internal/strconv.uint64pow10" .u64 Lib.pow10Tab
theorem data_add (a b : ByteArray) : (a ++ b).data.toList = a.data.toList ++ b.data.toList := by simp
theorem str_of {s : ByteArray} {l : List UInt8} (h : s.data.toList = l) : s = ⟨l.toArray⟩ := by rw [← h, Lib.mk_data]
theorem str_eq {s t : ByteArray} (h : s.data.toList = t.data.toList) : s = t := by rw [str_of h, Lib.mk_data]

def strs1 (zs : List ByteArray) : List Value := zs.map fun s => Value.string s
theorem strs1_length (zs : List ByteArray) : (strs1 zs).length = zs.length := by simp [strs1]
theorem strs1_append (zs ys : List ByteArray) : strs1 (zs ++ ys) = strs1 zs ++ strs1 ys := by simp [strs1]
theorem strs1_get (zs : List ByteArray) (j : Nat) : (strs1 zs)[j]? = (zs[j]?).map fun s => Value.string s := by simp [strs1]
def OwStr (w : World) (B : Nat) (v : Value) (zs : List ByteArray) : Prop := w.ownsRow B 9 1 v zs.length (strs1 zs)
theorem OwStr.below {w w' : World} {B : Nat} {v : Value} {zs : List ByteArray} (h : OwStr w B v zs) (hb : Below w.heap.size w w') : OwStr w' B v zs := own_below h hb
theorem OwStr.alloc {w : World} {B : Nat} {v : Value} {zs : List ByteArray} (h : OwStr w B v zs) (o : Obj) : OwStr (w.alloc o) B v zs := World.ownsRow.alloc h o
theorem OwStr.lt {w : World} {B : Nat} {v : Value} {zs : List ByteArray} (h : OwStr w B v zs) : ∀ k, v.ownBlock = some k → B ≤ k ∧ k < w.heap.size := World.ownsRow.lt h
theorem OwStr.empty (w : World) (B : Nat) (hB : B ≤ w.heap.size) : OwStr (w.alloc (.cells #[] 9)) B (.slice (some ⟨w.heap.size, 0, none⟩) 0 0) [] := World.ownsRow_lit w #[] 0 hB (by omega) rfl
theorem OwStr.grown_below {a w w' : World} {B : Nat} {v : Value} {zs : List ByteArray} (o : OwStr w B v zs) (h : Below a.heap.size a w) (hB : a.heap.size ≤ B) (hg : w.grownBy w' v.ownBlock) : Below a.heap.size a w' :=
  below_grown h hg (fun k hk => (o.lt k hk).1) hB
theorem OwStr.open {w : World} {B : Nat} {v : Value} {zs : List ByteArray} (h : OwStr w B v zs) : (v = .slice none 0 0 ∧ zs = []) ∨ ∃ g cap, v = .slice (some ⟨g, 0, none⟩) zs.length cap ∧ B ≤ g ∧ g < w.heap.size ∧ zs.length ≤ cap ∧ cap ≤ 9223372036854775807 ∧
    ∀ (j : Nat) x, zs[j]? = some x → w.cell? ⟨g, 0 + j, none⟩ = some (.string x) := by
  have hr : Rd w v zs.length (strs1 zs) := Rd.of_own h
  rcases h.2 with ⟨rfl, h0⟩ | ⟨g, cap, cur, rfl, hg, hh, hn, hm, _⟩
  · exact .inl ⟨rfl, List.eq_nil_of_length_eq_zero h0⟩
  · refine .inr ⟨g, cap, rfl, hg, (Array.getElem?_eq_some_iff.1 hh).1, hn, by rw [maxLen_eq] at hm; exact hm, fun j x hx => ?_⟩
    obtain ⟨a, cap', b, off, hv, h1, h2, h3, h4⟩ := hr
    simp only [Value.slice.injEq] at hv
    obtain ⟨rfl, _, rfl⟩ := hv
    have hj := (List.getElem?_eq_some_iff.1 hx).1
    have ha := h3 (by rw [strs1_length]; omega)
    simp only [Option.some.injEq, Addr.mk.injEq] at ha
    obtain ⟨rfl, rfl, _⟩ := ha
    exact h4 j _ (by rw [strs1_get, hx]; rfl)
theorem underStrs : Tryd.prog.underlying 56 = some (.slice 9) := Tryd.underlying56
theorem infoStr : (Tryd.prog.info? 9).map (fun i => (i.zero, i.size, i.bytes)) = some (some (.string ⟨#[]⟩), 1, 16) := by kernel_rfl
/-- out = append(out, s). -/
theorem wpList_pushS {ops : Array Oper} {rest : List Oper} {o : Oper} {a : Act} {Q : Exit → Act → World → Prop} (hgd : o.guard = none) (s x : Operand)
    (ho : o.op = .call { callee := .builtin .append, args := #[s, x], argTypes := #[56, 56] }) (w : World) (q : ByteArray)
    (B : Nat) (v : Value) (zs : List ByteArray) (hs : a.eval s = v) (hown : OwStr w B v zs) (hx : a.eval x = .slice (some ⟨w.heap.size, 0, none⟩) 1 1)
    (hsmall : zs.length ≤ 1099511627775) (hbase : B ≤ w.heap.size)
    (h : ∀ v' w', OwStr w' B v' (zs ++ [q]) → w.grownBy w' v.ownBlock → (v'.ownBlock = v.ownBlock ∨ ∃ k, v'.ownBlock = some k ∧ w.heap.size ≤ k) → wpList Tryd.prog ops Q rest (a.put o.dst v') w') :
    wpList Tryd.prog ops Q (o :: rest) a (w.alloc (.cells #[.string q] 9)) := by
  refine wpList_app hgd s x _ ho _ B 9 (.string ⟨#[]⟩) 1 16 underStrs infoStr rfl (by decide) v zs.length (strs1 zs) hs (hown.alloc _) _ 1 [.string q] hx (rd_alloc w #[.string q] 9 1 (by decide)) rfl
    (by intro c hc; simp at hc; subst hc; rfl) (by omega) (by decide) (by simp; omega) fun v' w' h2 h3 h4 => ?_
  refine h v' w' ?_ (grown_alloc h3) ?_
  · unfold OwStr
    rw [List.length_append, strs1_append]
    exact h2
  · rcases h4 with h4 | h4
    · exact .inl h4
    · exact .inr ⟨_, h4, by simp⟩
end Go.Proofs.YtkkcglncjdoacaaDoor
