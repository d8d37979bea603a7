/-
  Layer 12: a map whose key is a place.
-/
import Derived.Test.YtocdifjdeifclaaCanPlain
import Derived.Maps.OwnOps
import Derived.Maps.Views
import Derived.DeepKeys4
import Derived.ChangeKeys
namespace Go.Proofs.Ytocdifjdeifclaa
open Go
set_option linter.unusedVariables false
set_option linter.unusedSimpArgs false
set_option maxRecDepth 100000

theorem place_wide : (match Try.prog.underlying 82 with | some (.array _ _) | some (.struct _) => true | _ => false) = true := by rw [Try.underlying82]
theorem place_keyed : Go.Maps.Keyed Try.prog 82 :=
  Go.Maps.Keyed.of_law (deep_law_laid (by kernel_rfl) (m := 2) (by omega) (of_decide_eq_true (by kernel_rfl)) (by kernel_rfl) place_wide)
def plit (k : List UInt8) (g : Int) : Lit := .string (keyBytes [.string k, .int .i64 g])
theorem place_key (k : List UInt8) (g : Int) (hk : k.length ≤ maxLen) (hg : (Lit.int .i64 g).wf = true) : keyOf Try.prog 82 (.agg #[strV k, .int .i64 g]) = some (plit k g) := by
  unfold keyOf
  have hkt : Try.prog.keyType 82 = true := by kernel_rfl
  have hf : (Value.agg #[strV k, .int .i64 g]).formed Try.prog 82 = true := by
    have hc : Try.prog.cellsOf 82 = 2 := by kernel_rfl
    simp [Value.formed, Try.underlying82, hc]
  simp only [Try.underlying82, hkt, hf, Bool.and_self, if_true]
  obtain ⟨m, hm⟩ : ∃ m, Try.prog.types.size = m + 1 := ⟨Try.prog.types.size - 1, by have : 0 < Try.prog.types.size := of_decide_eq_true (by kernel_rfl); omega⟩
  rw [hm]
  have c2 : Try.prog.cellsOf 82 = 2 := by kernel_rfl
  have cs : Try.prog.cellsOf 9 = 1 := by kernel_rfl
  have ci : Try.prog.cellsOf 3 = 1 := by kernel_rfl
  have hg' : (Lit.int .i64 g).wf = true := hg
  simp [Program.keyLits, Try.underlying82, Try.underlying9, Try.underlying3, c2, cs, ci, strV, Value.cells, hk, hg', plit, List.mapM_cons]
  have hsz : (⟨k.toArray⟩ : ByteArray).size ≤ maxLen := by show k.toArray.size ≤ maxLen; simpa using hk
  rw [if_pos hsz]
  rfl
theorem plit_inj {k k' : List UInt8} {g g' : Int} (hk : k.length ≤ maxLen) (hk' : k'.length ≤ maxLen) (hg : (Lit.int .i64 g).wf = true) (hg' : (Lit.int .i64 g').wf = true) (h : plit k g = plit k' g') : k = k' ∧ g = g' := by
  unfold plit at h
  injection h with h
  have := keyBytes_inj (l := [.string k, .int .i64 g]) (l' := [.string k', .int .i64 g']) (by simp [Alike, Lit.sameKind]) (by intro a ha; simp only [List.mem_cons, List.not_mem_nil, or_false] at ha; rcases ha with rfl | rfl; exact hk; exact hg) (by intro a ha; simp only [List.mem_cons, List.not_mem_nil, or_false] at ha; rcases ha with rfl | rfl; exact hk'; exact hg') h
  simpa using this
/-- The number of the last write of a place; 0 where there is none. -/
def lastIx : List Wr → Nat → Wr → Nat → Nat
  | [], _, _, d => d
  | y :: r, i, x, d => lastIx r (i + 1) x (if samePl y x then i else d)
theorem lastIx_snoc (y x : Wr) : ∀ (ws : List Wr) (i d : Nat), lastIx (ws ++ [y]) i x d = if samePl y x then i + ws.length else lastIx ws i x d
  | [], i, d => by simp [lastIx]
  | z :: r, i, d => by
    simp only [List.cons_append, lastIx, lastIx_snoc y x r, List.length_cons]
    split
    · omega
    · rfl
theorem lastIx_none (x : Wr) : ∀ (ws : List Wr) (i d : Nat), ws.any (samePl x) = false → lastIx ws i x d = d
  | [], _, _, _ => rfl
  | y :: r, i, d, h => by
    simp only [List.any_cons, Bool.or_eq_false_iff] at h
    have h1 : samePl y x = false := by
      cases h2 : samePl y x with
      | false => rfl
      | true => rw [samePl_symm h2] at h; exact absurd h.1 (by simp)
    simp only [lastIx, h1]
    exact lastIx_none x r (i + 1) d h.2
theorem lastIx_some (x : Wr) : ∀ (ws : List Wr) (i d : Nat), ws.any (samePl x) = true → i ≤ lastIx ws i x d
  | y :: r, i, d, h => by
    simp only [lastIx]
    cases h1 : r.any (samePl x) with
    | true => exact Nat.le_trans (Nat.le_succ i) (lastIx_some x r (i + 1) _ h1)
    | false =>
      simp only [List.any_cons, h1, Bool.or_false] at h
      rw [samePl_symm h, lastIx_none x r _ _ h1]
      simp
theorem lastIx_append (x : Wr) : ∀ (a b : List Wr) (i d : Nat), lastIx (a ++ b) i x d = lastIx b (i + a.length) x (lastIx a i x d)
  | [], b, i, d => rfl
  | y :: r, b, i, d => by
    simp only [List.cons_append, lastIx, lastIx_append x r b, List.length_cons]
    rw [show i + 1 + r.length = i + (r.length + 1) by omega]
/-- A write is the last of its place where the map says its own number. -/
theorem lastIx_own (pre suf : List Wr) (x : Wr) : (lastIx (pre ++ x :: suf) 0 x 0 = pre.length) ↔ suf.any (samePl x) = false := by
  rw [lastIx_append]
  have hx : samePl x x = true := samePl_iff.2 ⟨rfl, rfl⟩
  simp only [lastIx, hx, if_true, Nat.zero_add]
  cases h : suf.any (samePl x) with
  | false => simp [lastIx_none x suf _ _ h]
  | true =>
    have := lastIx_some x suf (pre.length + 1) pre.length h
    constructor
    · intro h2; omega
    · intro h2; exact absurd h2 (by simp)
/-- What the map reads as behind these writes. -/
def lmapG : List Wr → Nat → DataW Unit → DataW Unit
  | [], _, D => D
  | y :: r, i, D => lmapG r (i + 1) (D.put (plit y.key y.group) (.lit (.int .i64 (i : Int))))
theorem lmapG_snoc (y : Wr) : ∀ (ws : List Wr) (i : Nat) (D : DataW Unit), lmapG (ws ++ [y]) i D = (lmapG ws i D).put (plit y.key y.group) (.lit (.int .i64 ((i + ws.length : Nat) : Int)))
  | [], i, D => rfl
  | z :: r, i, D => by
    simp only [List.cons_append, lmapG, lmapG_snoc y r, List.length_cons]
    rw [show i + 1 + r.length = i + (r.length + 1) by omega]
def lmap (ws : List Wr) : DataW Unit := lmapG ws 0 (.map [])
theorem lmap_snoc (ws : List Wr) (y : Wr) : lmap (ws ++ [y]) = (lmap ws).put (plit y.key y.group) (.lit (.int .i64 (ws.length : Int))) := by
  unfold lmap; rw [lmapG_snoc, Nat.zero_add]
/-- What may stand in a write's place. -/
def plOk (x : Wr) : Prop := x.key.length ≤ maxLen ∧ (Lit.int .i64 x.group).wf = true
theorem plOk_of {x : Wr} (h : x.fits) : plOk x := by
  obtain ⟨h1, h2, _⟩ := h
  unfold In64 at h2
  exact ⟨h1, by simp [Lit.wf, IntKind.min, IntKind.max, IntKind.signed, IntKind.bits]; omega⟩
theorem lmap_isMap : ∀ ws : List Wr, Go.Maps.IsMap (lmap ws) := by
  intro ws
  induction ws using snocInd with
  | h0 => exact ⟨[], rfl⟩
  | h1 r x ih => rw [lmap_snoc]; exact Go.Maps.IsMap.put ih _ _
theorem plit_key (k : List UInt8) (g : Int) : WideAt.IsKeyLit (plit k g) := by unfold plit; trivial
theorem lmap_at {x : Wr} (hx : plOk x) (ws : List Wr) (hws : ∀ y ∈ ws, plOk y) : (lmap ws).atKey (plit x.key x.group) (.lit (.int .i64 0)) = .lit (.int .i64 ((lastIx ws 0 x 0 : Nat) : Int)) := by
  induction ws using snocInd with
  | h0 => rfl
  | h1 r y ih =>
    rw [lmap_snoc, lastIx_snoc]
    have hy := hws y (by simp)
    have ih' := ih fun z hz => hws z (by simp [hz])
    cases hs : samePl y x with
    | true =>
      obtain ⟨e1, e2⟩ := samePl_iff.1 hs
      rw [e1, e2, Go.Maps.atKey_put_same (lmap_isMap r) (plit_key _ _)]
      simp
    | false =>
      rw [Go.Maps.atKey_put_other (fun e => by
        obtain ⟨e1, e2⟩ := plit_inj hx.1 hy.1 hx.2 hy.2 e
        rw [samePl_iff.2 ⟨e1.symm, e2.symm⟩] at hs
        exact absurd hs (by simp)), ih']
      simp
end Go.Proofs.Ytocdifjdeifclaa
