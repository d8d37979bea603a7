/-
  Layer 15: the program's disk in memory: its blocks.
-/
import Derived.Test.YtkejoiknnigllaaDkMem
namespace Go.Proofs.Ytkejoiknnigllaa
open Go Go.RowKit Mono
open Go.Maps (Keyed has size)
open Go.ChangeMaps Go.MapKept Go.WideShapes
open Go.WideElems (Fit rg)
set_option linter.unusedVariables false

/-- The pointer of a file, read as its block's number. -/
def ptrR (v : Value) : Option (DataW Unit × List MemPlace) := match v with
  | .pointer (some ⟨b, 0, none⟩) => some (.lit (.int .u64 b), [])
  | .pointer none => some (.nil, [])
  | _ => none
theorem ptrR_inv {v : Value} {b : Nat} {ps : List MemPlace} (h : ptrR v = some (.lit (.int .u64 b), ps)) : v = .pointer (some ⟨b, 0, none⟩) := by
  unfold ptrR at h
  split at h
  · rename_i b'
    injection h with h
    injection h with h _
    injection h with h
    injection h with _ h
    have : b' = b := by omega
    rw [this]
  · injection h with h
    injection h with h _
    cases h
  · cases h
theorem ptrR_mk (b : Nat) : ptrR (.pointer (some ⟨b, 0, none⟩)) = some (.lit (.int .u64 b), []) := rfl
def ptrD (b : Nat) : DataW Unit := .lit (.int .u64 b)
theorem keyS : Keyed Try.prog 9 := Maps.string_keyed Try.underlying9
theorem keyOf_str (s : List UInt8) (h : s.length ≤ maxLen) : keyOf Try.prog 9 (strV s) = some (Lit.string s) := by
  have hz : ByteArray.size ⟨s.toArray⟩ ≤ maxLen := by simpa [ByteArray.size] using h
  simp [strV, keyOf, Try.underlying9, mapKey, hz]
/-- A file in memory. -/
structure FilM where
  name : List UInt8
  blk : Nat
  v : Value
  b : List UInt8
  sure : Nat
def FilM.fil (m : FilM) : Fil := ⟨m.name, m.b, m.sure⟩
structure MapIs (D : DataW Unit) (ms : List FilM) : Prop where
  has_ : ∀ n, has D (.string n) = ms.any fun m => m.name == n
  at_ : ∀ m ∈ ms, ∀ z, D.atKey (.string m.name) z = ptrD m.blk
  size_ : size D = ms.length
def planV (p : Option (Nat × Int)) (pl : Nat) : Value := match p with
  | none => .pointer none
  | some _ => .pointer (some ⟨pl, 0, none⟩)
def dstrU (u : Int) (d : Dk) (bm pl : Nat) : List Value := [.int .i64 (d.room : Int), .map (some bm), .bool d.on, .int .i64 u, .int .i64 (d.ops : Int), .int .i64 (d.fails : Int), planV d.plan pl]
/-- .. with the count of its files' bytes. -/
abbrev dstrC (d : Dk) (bm pl : Nat) : List Value := dstrU (d.used : Int) d bm pl
/-- The disk d in memory, at or behind z; the count u of bytes as it stands there. -/
structure DkU (u : Int) (z : Nat) (W : World) (bd bm pl : Nat) (d : Dk) (ms : List FilM) : Prop where
  fs : ms.map FilM.fil = d.fs
  str : BlkT W bd 61 (dstrU u d bm pl)
  plan : ∀ n k, d.plan = some (n, k) → BlkT W pl 81 [.int .i64 (n : Int), .int .i64 k] ∧ z ≤ pl
  map : ∃ n D, W.ownsMap Try.prog 9 ptrR bm n D ∧ MapIs D ms
  files : ∀ m ∈ ms, BlkT W m.blk 72 [m.v, .int .i64 (m.sure : Int)] ∧ z ≤ m.blk
  bytes : ∀ m ∈ ms, BsT z W m.v m.b
  blks : ms.Pairwise fun a b => a.blk ≠ b.blk
  zd : z ≤ bd
  zm : z ≤ bm
/-- The disk d in memory. -/
abbrev DkM (z : Nat) (W : World) (bd bm pl : Nat) (d : Dk) (ms : List FilM) : Prop := DkU (d.used : Int) z W bd bm pl d ms
/-- The blocks that the disk writes. -/
def dfp (bd bm pl : Nat) (d : Dk) (ms : List FilM) (k : Nat) : Prop := k = bd ∨ k = bm ∨ (d.plan.isSome = true ∧ k = pl) ∨ ∃ m ∈ ms, k = m.blk
theorem DkU.kb {u : Int} {z bd bm pl : Nat} {W W' : World} {d : Dk} {ms : List FilM} {fp : Nat → Prop} (h : DkU u z W bd bm pl d ms) (k : Kb fp W W') (hn : ∀ j, dfp bd bm pl d ms j → ¬ fp j) (hb : ∀ m ∈ ms, ∀ j, m.v.ownBlock = some j → ¬ fp j) : DkU u z W' bd bm pl d ms := by
  refine ⟨h.fs, h.str.kb k (hn bd (.inl rfl)), fun n kk hp => ⟨(h.plan n kk hp).1.kb k (hn pl (.inr (.inr (.inl ⟨by rw [hp]; rfl, rfl⟩)))), (h.plan n kk hp).2⟩, ?_, fun m hm => ⟨(h.files m hm).1.kb k (hn _ (.inr (.inr (.inr ⟨m, hm, rfl⟩)))), (h.files m hm).2⟩, fun m hm => (h.bytes m hm).kb k (hb m hm), h.blks, h.zd, h.zm⟩
  obtain ⟨n, D, ⟨es, clock, hb', hF, hs, hD⟩, hm⟩ := h.map
  exact ⟨n, D, ⟨es, clock, (k.block bm (Array.getElem?_eq_some_iff.1 hb').1 (hn bm (.inr (.inl rfl)))).trans hb', hF, hs, hD⟩, hm⟩
theorem DkU.ext {u : Int} {z bd bm pl : Nat} {W W' : World} {d : Dk} {ms : List FilM} (h : DkU u z W bd bm pl d ms) (he : Ext W W') : DkU u z W' bd bm pl d ms :=
  h.kb (Kb.of_ext (fp := fun _ => False) he) (fun _ _ h => h) (fun _ _ _ _ h => h)
theorem DkU.low {u : Int} {z bd bm pl : Nat} {W : World} {d : Dk} {ms : List FilM} (h : DkU u z W bd bm pl d ms) : ∀ j, dfp bd bm pl d ms j → z ≤ j := by
  rintro j (rfl | rfl | ⟨hp, rfl⟩ | ⟨m, hm, rfl⟩)
  · exact h.zd
  · exact h.zm
  · obtain ⟨⟨n, k⟩, hp⟩ := Option.isSome_iff_exists.1 hp
    exact (h.plan n k hp).2
  · exact (h.files m hm).2
end Go.Proofs.Ytkejoiknnigllaa
