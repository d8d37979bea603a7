/-
  Words for memory: a slice that reads as a list of one-cell values; bytes.
-/
import Derived.WalkKit
import Derived.WalkSpells
import Derived.WalkLawsBesides
import Derived.Lib.Hide
import Derived.Lib.Strings
import Derived.Laws.BitsAllLaws
import Derived.Laws.Bits64
import Derived.Lib.SlBytesConst
import Derived.Test.YtocdifjdeifclaaMono
namespace Go.Proofs.Ytocdifjdeifclaa
open Go.RowKit Mono

/-- The slice value v reads as xs, each element one cell. -/
def Sl (w : World) (v : Value) (xs : List Value) : Prop :=
  ∃ A c, v = .slice A xs.length c ∧ xs.length ≤ c ∧ c ≤ maxLen ∧ (A = none → c = 0) ∧
    (0 < xs.length → ∃ b off, A = some ⟨b, off, none⟩ ∧ b < w.heap.size ∧ ∀ i x, xs[i]? = some x → w.cell? ⟨b, off + i, none⟩ = some x)

theorem Sl.ext {w w' : World} {v : Value} {xs : List Value} (h : Sl w v xs) (he : Ext w w') : Sl w' v xs := by
  obtain ⟨A, c, hv, h1, h2, h3, h4⟩ := h
  refine ⟨A, c, hv, h1, h2, h3, fun h0 => ?_⟩
  obtain ⟨b, off, hA, hb, hc⟩ := h4 h0
  exact ⟨b, off, hA, Nat.lt_of_lt_of_le hb he.size, fun i x hx => (he.cell (p := ⟨b, off + i, none⟩) hb).trans (hc i x hx)⟩

theorem Sl.nil_ (w : World) : Sl w (.slice none 0 0) [] := ⟨none, 0, rfl, Nat.le_refl _, Nat.zero_le _, fun _ => rfl, fun h => absurd h (by simp)⟩

/-- A byte as a value. -/
def bv (x : UInt8) : Value := .int .u8 (x.toNat : Int)
def Bs (w : World) (v : Value) (l : List UInt8) : Prop := Sl w v (l.map bv)
theorem Bs.ext {w w' : World} {v : Value} {l : List UInt8} (h : Bs w v l) (he : Ext w w') : Bs w' v l := Sl.ext h he
theorem Bs.nil_ (w : World) : Bs w (.slice none 0 0) [] := Sl.nil_ w

theorem Bs.open_ {w : World} {v : Value} {l : List UInt8} (h : Bs w v l) : ∃ A c, v = .slice A l.length c ∧ l.length ≤ c ∧ c ≤ maxLen ∧ (A = none → c = 0) ∧
    (0 < l.length → ∃ b off, A = some ⟨b, off, none⟩ ∧ b < w.heap.size ∧ ∀ i x, l[i]? = some x → w.cell? ⟨b, off + i, none⟩ = some (.int .u8 (x.toNat : Int))) := by
  obtain ⟨A, c, hv, h1, h2, h3, h4⟩ := h
  simp only [List.length_map] at hv h1 h4
  refine ⟨A, c, hv, h1, h2, h3, fun h0 => ?_⟩
  obtain ⟨b, off, hA, hb, hc⟩ := h4 h0
  exact ⟨b, off, hA, hb, fun i x hx => hc i _ (by rw [List.getElem?_map, hx]; rfl)⟩

theorem Bs.mk {w : World} {A : Option Addr} {n c : Nat} {l : List UInt8} (hn : l.length = n) (h1 : n ≤ c) (h2 : c ≤ maxLen) (h3 : A = none → c = 0)
    (h4 : 0 < l.length → ∃ b off, A = some ⟨b, off, none⟩ ∧ b < w.heap.size ∧ ∀ i x, l[i]? = some x → w.cell? ⟨b, off + i, none⟩ = some (.int .u8 (x.toNat : Int))) : Bs w (.slice A n c) l := by
  subst hn
  refine ⟨A, c, by simp, by simpa using h1, h2, h3, fun h0 => ?_⟩
  obtain ⟨b, off, hA, hb, hc⟩ := h4 (by simpa using h0)
  refine ⟨b, off, hA, hb, fun i x hx => ?_⟩
  rw [List.getElem?_map] at hx
  cases hl : l[i]? with
  | none => rw [hl] at hx; cases hx
  | some y => rw [hl] at hx; injection hx with hx; rw [← hx]; exact hc i y hl
theorem Sl.alloc_ (w : World) {xs : List Value} {C : Array Value} (T : TypeId) (fr : Nat × Nat) {n c : Nat} (hC : C.toList = xs) (hn : xs.length = n) (h1 : n ≤ c) (h2 : c ≤ maxLen) :
    Sl (w.alloc (.cells C T fr)) (.slice (some ⟨w.heap.size, 0, none⟩) n c) xs := by
  subst hn
  refine ⟨_, c, rfl, h1, h2, by simp, fun _ => ⟨w.heap.size, 0, rfl, by simp, fun i x hx => ?_⟩⟩
  rw [World.cell?_alloc_mark, Nat.zero_add, ← hx, ← hC]
  simp
theorem Bs.alloc_ (w : World) {l : List UInt8} {C : Array Value} (T : TypeId) (fr : Nat × Nat) {n c : Nat} (hC : C.toList = l.map bv) (hn : l.length = n) (h1 : n ≤ c) (h2 : c ≤ maxLen) :
    Bs (w.alloc (.cells C T fr)) (.slice (some ⟨w.heap.size, 0, none⟩) n c) l := Sl.alloc_ w T fr hC (by simpa using hn) h1 h2

theorem ext_alloc (w : World) (o : Obj) : Ext w (w.alloc o) := (Below.refl _ _).alloc (Nat.le_refl _) o
theorem ext_drew (w : World) : Ext w w.drew := (Below.refl _ _).drew
/-! ### Cuts -/
theorem Sl.upto {w : World} {A : Option Addr} {n c k : Nat} {xs : List Value} (h : Sl w (.slice A n c) xs) (hk : k ≤ n) : Sl w (.slice A k c) (xs.take k) := by
  obtain ⟨A', c', hv, h1, h2, h3, h4⟩ := h
  injection hv with e1 e2 e3
  subst e1 e2 e3
  refine ⟨A, c, by simp; omega, by simp; omega, h2, h3, fun h0 => ?_⟩
  obtain ⟨b, off, hA, hb, hc⟩ := h4 (by simp at h0; omega)
  refine ⟨b, off, hA, hb, fun i x hx => hc i x ?_⟩
  rw [List.getElem?_take] at hx
  split at hx
  · exact hx
  · cases hx
theorem Sl.from_ {w : World} {A : Option Addr} {n c k : Nat} {xs : List Value} (h : Sl w (.slice A n c) xs) (hk : k ≤ n) :
    Sl w (.slice (if c = k then A else A.map (·.add k)) (n - k) (c - k)) (xs.drop k) := by
  obtain ⟨A', c', hv, h1, h2, h3, h4⟩ := h
  injection hv with e1 e2 e3
  subst e1 e2 e3
  refine ⟨_, _, by rw [List.length_drop], by rw [List.length_drop]; omega, by omega, fun hA => ?_, fun h0 => ?_⟩
  · split at hA
    · omega
    · have : A = none := by simpa using hA
      have := h3 this
      omega
  · rw [List.length_drop] at h0
    obtain ⟨b, off, hA, hb, hc⟩ := h4 (by omega)
    subst hA
    rw [if_neg (by omega)]
    refine ⟨b, off + k, by by_cases hk0 : k = 0 <;> simp [Addr.add, hk0], hb, fun i x hx => ?_⟩
    rw [List.getElem?_drop] at hx
    rw [Nat.add_assoc]
    exact hc _ x hx
theorem Bs.upto {w : World} {A : Option Addr} {n c k : Nat} {l : List UInt8} (h : Bs w (.slice A n c) l) (hk : k ≤ n) : Bs w (.slice A k c) (l.take k) := by
  have := Sl.upto h hk
  rwa [← List.map_take] at this
theorem Bs.from_ {w : World} {A : Option Addr} {n c k : Nat} {l : List UInt8} (h : Bs w (.slice A n c) l) (hk : k ≤ n) :
    Bs w (.slice (if c = k then A else A.map (·.add k)) (n - k) (c - k)) (l.drop k) := by
  have := Sl.from_ h hk
  rwa [← List.map_drop] at this

/-! ### Integers -/
def In64 (a : Int) : Prop := -9223372036854775808 ≤ a ∧ a ≤ 9223372036854775807
def iv (x : Int) : Value := .int .i64 x
def Is (w : World) (v : Value) (l : List Int) : Prop := Sl w v (l.map iv) ∧ ∀ n ∈ l, In64 n
theorem Is.ext {w w' : World} {v : Value} {l : List Int} (h : Is w v l) (he : Ext w w') : Is w' v l := ⟨h.1.ext he, h.2⟩
theorem Is.nil_ (w : World) : Is w (.slice none 0 0) [] := ⟨Sl.nil_ w, fun _ h => by cases h⟩
theorem Is.open_ {w : World} {v : Value} {l : List Int} (h : Is w v l) : ∃ A c, v = .slice A l.length c ∧ l.length ≤ c ∧ c ≤ maxLen ∧ (A = none → c = 0) ∧
    (0 < l.length → ∃ b off, A = some ⟨b, off, none⟩ ∧ b < w.heap.size ∧ ∀ i x, l[i]? = some x → w.cell? ⟨b, off + i, none⟩ = some (.int .i64 x) ∧ In64 x) := by
  obtain ⟨⟨A, c, hv, h1, h2, h3, h4⟩, hin⟩ := h
  simp only [List.length_map] at hv h1 h4
  refine ⟨A, c, hv, h1, h2, h3, fun h0 => ?_⟩
  obtain ⟨b, off, hA, hb, hc⟩ := h4 h0
  exact ⟨b, off, hA, hb, fun i x hx => ⟨hc i _ (by rw [List.getElem?_map, hx]; rfl), hin x (List.mem_of_getElem? hx)⟩⟩
/-- 'int(uint(y) % uint(m + 1))': a place from 0 to m. -/
theorem place_int (y : Int) (m : Nat) (hm : m ≤ 9223372036854775806) : ∃ q : Nat, q ≤ m ∧ wrap64 ((IntKind.u64.wrap y).tmod ((m : Int) + 1)) = (q : Int) := by
  have h0 : 0 ≤ IntKind.u64.wrap y := by rw [IntKind.wrap_u64]; omega
  rw [Int.tmod_eq_emod_of_nonneg h0]
  have h1 : 0 ≤ IntKind.u64.wrap y % ((m : Int) + 1) := Int.emod_nonneg _ (by omega)
  have h2 : IntKind.u64.wrap y % ((m : Int) + 1) < (m : Int) + 1 := Int.emod_lt_of_pos _ (by omega)
  refine ⟨(IntKind.u64.wrap y % ((m : Int) + 1)).toNat, by omega, ?_⟩
  rw [IntWalk.wrap64_in _ ⟨by omega, by omega⟩]
  omega
/-! ### Texts -/
/-- 'string(b)'. -/
theorem Bs.str {P : Program} {w : World} {v : Value} {l : List UInt8} (h : Bs w v l) (src dst e : TypeId) (hs : P.underlying src = some (.slice e)) (he : P.underlying e = some (.int .u8)) (hd : P.underlying dst = some .string) :
    (convert src dst v).run P w = .ok (.string ⟨l.toArray⟩) w := by
  obtain ⟨A, c, rfl, h1, _, h3, h4⟩ := h.open_
  cases A with
  | none =>
    have hl : l = [] := by have := h3 rfl; exact List.eq_nil_of_length_eq_zero (by omega)
    subst hl
    rw [run_convert_bytes_string w src dst e none _ c hs he hd]
    simp [Conv.bytesToString]
    rfl
  | some ad =>
    by_cases h0 : 0 < l.length
    · obtain ⟨b, off, hA, _, hc⟩ := h4 h0
      injection hA with hA
      subst hA
      exact run_convert_bytes_back w src dst e _ c l hs he hd fun j hj => by
        have hadd : (⟨b, off, none⟩ : Addr).add j = ⟨b, off + j, none⟩ := by by_cases hj0 : j = 0 <;> simp [Addr.add, hj0]
        rw [hadd]
        exact hc j l[j] (List.getElem?_eq_getElem hj)
    · have hl : l = [] := List.eq_nil_of_length_eq_zero (by omega)
      subst hl
      exact run_convert_bytes_back w src dst e _ c [] hs he hd fun j hj => absurd hj (by simp)
/-- The bytes of a text, as a predicate that new memory does not disturb. -/
def isBs (l : List UInt8) : MRel := ⟨fun v w => Bs w v l, fun _ _ _ h he => h.ext he⟩
def strV (l : List UInt8) : Value := .string ⟨l.toArray⟩
theorem Bs.str_ {w : World} {v : Value} {l : List UInt8} (h : Bs w v l) {P : Program} (src dst e : TypeId) (hs : P.underlying src = some (.slice e)) (he : P.underlying e = some (.int .u8)) (hd : P.underlying dst = some .string) :
    (convert src dst v).run P w = .ok (strV l) w := h.str src dst e hs he hd
theorem exec_eql_str {P : Program} {w : World} {o : Oper} {t t2 : TypeId} {x y : Operand} {f : Operand → Value} {a b : List UInt8} (hop : o.op = .binOp .eql t x y t2) (hx : f x = strV a) (hy : f y = strV b) :
    (execOp f o).run P w = .ok (.value (.bool (a == b))) w := by
  unfold strV at hx hy
  simp [execOp, hop, hx, hy, go_sem]
theorem Bs.len {w : World} {A : Option Addr} {n c : Nat} {l : List UInt8} (h : Bs w (.slice A n c) l) : n = l.length := by
  obtain ⟨A', c', hv, _⟩ := h.open_
  injection hv
theorem Is.len {w : World} {A : Option Addr} {n c : Nat} {l : List Int} (h : Is w (.slice A n c) l) : n = l.length := by
  obtain ⟨A', c', hv, _⟩ := h.open_
  injection hv
theorem exec_neq_str {P : Program} {w : World} {o : Oper} {t t2 : TypeId} {x y : Operand} {f : Operand → Value} {a b : List UInt8} (hop : o.op = .binOp .neq t x y t2) (hx : f x = strV a) (hy : f y = strV b) :
    (execOp f o).run P w = .ok (.value (.bool (!(a == b)))) w := by
  unfold strV at hx hy
  simp [execOp, hop, hx, hy, go_sem]
theorem strV_extract (l : List UInt8) (i j : Nat) : (⟨l.toArray⟩ : ByteArray).extract i j = ⟨((l.drop i).take (j - i)).toArray⟩ := by
  apply ByteArray.ext
  apply Array.ext'
  rw [Lib.extract_data]
theorem strV_size (l : List UInt8) : (⟨l.toArray⟩ : ByteArray).size = l.length := by simp [ByteArray.size]
/-- 's[:k]' of a text. -/
theorem exec_str_upto {P : Program} {w : World} {o : Oper} {t : TypeId} {x y : Operand} {f : Operand → Value} {a : List UInt8} {k : Nat} (hop : o.op = .slice t x none (some y) none) (ht : P.underlying t = some .string)
    (hx : f x = strV a) (hy : f y = .int .i64 (k : Int)) (hk : k ≤ a.length) : (execOp f o).run P w = .ok (.value (strV (a.take k))) w := by
  have hs := strV_size a
  have h1 : (Instr.slice t (.string ⟨a.toArray⟩) none (some (.int .i64 (k : Int))) none).run P w = .ok (.string ((⟨a.toArray⟩ : ByteArray).extract 0 k)) w := by
    have := run_slice_string_to_if (P := P) (w := w) t (⟨a.toArray⟩ : ByteArray) .i64 (k : Int) ht
    rw [this, hs, if_pos (by omega), Int.toNat_natCast]
  unfold strV at hx ⊢
  simp only [execOp, hop, hx, hy, Option.map_none, Option.map_some]
  simp [run_sliceAt_string (h := ht), h1, strV_extract]
theorem below_drewN {B : Nat} {a w : World} (h : Below B a w) (n : Nat) : Below B a (w.drewN n) := ⟨h.os, h.tape, h.output, h.size, h.block⟩
end Go.Proofs.Ytocdifjdeifclaa
