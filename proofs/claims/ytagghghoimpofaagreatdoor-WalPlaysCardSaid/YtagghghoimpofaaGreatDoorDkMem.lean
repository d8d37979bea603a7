/-
 Layer 15: the program's disk in memory; what a call keeps.
-/
import Derived.Test.YtagghghoimpofaaGreatDoorDkPlain
import Derived.Test.YtagghghoimpofaaGreatDoorBytes
import Derived.Test.YtagghghoimpofaaGreatDoorBlk
import Derived.Maps.RangeWalk
import Derived.Maps.StringElems
import Derived.Test.YtagghghoimpofaaGreatDoorMono
import Derived.WideMake
namespace Go.Proofs.YtagghghoimpofaaGreatDoor
open Go Go.RowKit Mono
set_option linter.unusedVariables false

/-- What is not in fp is kept. -/
structure Kb (fp : Nat → Prop) (W W' : World) : Prop where
 os : W'.os = W.os
 tape : W'.tape = W.tape
 output : W'.output = W.output
 size : W.heap.size ≤ W'.heap.size
 block : ∀ k, k < W.heap.size → ¬ fp k → W'.heap[k]? = W.heap[k]?
theorem Kb.refl (fp : Nat → Prop) (W : World) : Kb fp W W := ⟨rfl, rfl, rfl, Nat.le_refl _, fun _ _ _ => rfl⟩
theorem Kb.of_ext {fp : Nat → Prop} {W W' : World} (h : Ext W W') : Kb fp W W' := ⟨h.os, h.tape, h.output, h.size, fun k hk _ => h.block k hk⟩
theorem Kb.ext {fp : Nat → Prop} {W0 W W' : World} (h : Ext W0 W) (k : Kb fp W W') (hf : ∀ b, fp b → W0.heap.size ≤ b) : Ext W0 W' :=
 ⟨k.os.trans h.os, k.tape.trans h.tape, k.output.trans h.output, Nat.le_trans h.size k.size, fun b hb => (k.block b (Nat.lt_of_lt_of_le hb h.size) (fun hp => by have := hf b hp; omega)).trans (h.block b hb)⟩
theorem Kb.trans {fp fp' : Nat → Prop} {W W1 W2 : World} (h : Kb fp W W1) (k : Kb fp' W1 W2) (hf : ∀ b, fp' b → fp b ∨ W.heap.size ≤ b) : Kb fp W W2 :=
 ⟨k.os.trans h.os, k.tape.trans h.tape, k.output.trans h.output, Nat.le_trans h.size k.size, fun b hb hn => (k.block b (Nat.lt_of_lt_of_le hb h.size) (fun hp => by
  rcases hf b hp with h1 | h1
  ·exact hn h1
  ·omega)).trans (h.block b hb hn)⟩
theorem Kb.grown {W W' : World} {r : Nat} (h : W.grownBy W' (some r)) {fp : Nat → Prop} (hr : fp r) : Kb fp W W' :=
 ⟨h.os, h.tape, h.output, h.size, fun k hk hn => h.block k hk (fun e => by injection e with e; subst e; exact hn hr)⟩
theorem Kb.mono {fp fp' : Nat → Prop} {W W' : World} (h : Kb fp W W') (hf : ∀ b, fp b → fp' b) : Kb fp' W W' := ⟨h.os, h.tape, h.output, h.size, fun k hk hn => h.block k hk fun hp => hn (hf k hp)⟩
/-- Block b is of type T and holds just the cells L. -/
def BlkT (W : World) (b : Nat) (T : TypeId) (L : List Value) : Prop := W.heap[b]? = some (.cells L.toArray T)
theorem BlkT.lt {W : World} {b : Nat} {T : TypeId} {L : List Value} (h : BlkT W b T L) : b < W.heap.size := (Array.getElem?_eq_some_iff.1 h).1
theorem BlkT.blk {W : World} {b : Nat} {T : TypeId} {L : List Value} (h : BlkT W b T L) : Blk W b L := ⟨T, h⟩
theorem BlkT.kb {fp : Nat → Prop} {W W' : World} {b : Nat} {T : TypeId} {L : List Value} (h : BlkT W b T L) (k : Kb fp W W') (hn : ¬ fp b) : BlkT W' b T L := (k.block b h.lt hn).trans h
theorem BlkT.new (W : World) (C : Array Value) (T : TypeId) : BlkT (W.alloc (.cells C T)) W.heap.size T C.toList := by show (W.heap.push _)[W.heap.size]? = _; simp
theorem BlkT.ext {W W' : World} {b : Nat} {T : TypeId} {L : List Value} (h : BlkT W b T L) (he : Ext W W') : BlkT W' b T L := (he.block b h.lt).trans h
theorem BlkT.set {W : World} {b : Nat} {T : TypeId} {L : List Value} (h : BlkT W b T L) (i : Nat) (v : Value) : BlkT (W.setCell ⟨b, i, none⟩ v) b T (L.set i v) := by
 unfold BlkT at *
 simp [World.setCell, Array.getElem?_modify, h]
theorem BlkT.other {W : World} {b : Nat} {T : TypeId} {L : List Value} (h : BlkT W b T L) {a : Addr} (v : Value) (hb : b ≠ a.block) : BlkT (W.setCell a v) b T L := (Below.heap_setCell W a v b hb).trans h
theorem BlkT.ne {W : World} {b b' : Nat} {T T' : TypeId} {L L' : List Value} (h : BlkT W b T L) (h' : BlkT W b' T' L') (hT : T ≠ T') : b ≠ b' := by
 rintro rfl
 unfold BlkT at h h'
 rw [h] at h'
 injection h' with h'
 injection h' with _ h'
 exact hT h'
theorem Kb.set (fp : Nat → Prop) (W : World) (b i : Nat) (v : Value) (hb : fp b) : Kb fp W (W.setCell ⟨b, i, none⟩ v) :=
 ⟨rfl, rfl, rfl, by simp [World.setCell], fun k hk hn => Below.heap_setCell W ⟨b, i, none⟩ v k (fun e => hn (by rw [e]; exact hb))⟩
/-- Bytes to be read, in a row of bytes that lies at or behind z. -/
structure BsT (z : Nat) (W : World) (v : Value) (b : List UInt8) : Prop where
 bs : Bs W v b
 typed : ∀ j, v.ownBlock = some j → z ≤ j ∧ ∃ C fz, W.heap[j]? = some (.cells C 5 fz)
theorem BsT.nil_ (z : Nat) (W : World) : BsT z W (.slice none 0 0) [] := ⟨Bs.nil_ W, fun j h => by cases h⟩
theorem Bs.kb {fp : Nat → Prop} {W W' : World} {v : Value} {b : List UInt8} (h : Bs W v b) (k : Kb fp W W') (hn : ∀ j, v.ownBlock = some j → ¬ fp j) : Bs W' v b := by
 obtain ⟨A, c, rfl, h1, h2, h3, h4⟩ := h.open_
 refine Bs.mk rfl h1 h2 h3 fun h0 => ?_
 obtain ⟨g, off, rfl, hg, hc⟩ := h4 h0
 refine ⟨g, off, rfl, Nat.lt_of_lt_of_le hg k.size, fun i x hx => ?_⟩
 rw [← hc i x hx]
 exact World.cell?_of_block (k.block g hg (hn g rfl))
theorem BsT.kb {fp : Nat → Prop} {z : Nat} {W W' : World} {v : Value} {b : List UInt8} (h : BsT z W v b) (k : Kb fp W W') (hn : ∀ j, v.ownBlock = some j → ¬ fp j) : BsT z W' v b :=
 ⟨h.bs.kb k hn, fun j hj => by
  obtain ⟨h1, C, fz, h2⟩ := h.typed j hj
  exact ⟨h1, C, fz, (k.block j (Array.getElem?_eq_some_iff.1 h2).1 (hn j hj)).trans h2⟩⟩
theorem BsT.ne {z : Nat} {W : World} {v : Value} {b : List UInt8} (h : BsT z W v b) {g : Nat} {T : TypeId} {L : List Value} (hg : BlkT W g T L) (hT : T ≠ 5) : ∀ j, v.ownBlock = some j → j ≠ g := by
 rintro j hj rfl
 obtain ⟨_, C, fz, h2⟩ := h.typed j hj
 unfold BlkT at hg
 rw [hg] at h2
 injection h2 with h2
 injection h2 with _ h2
 exact hT h2
theorem BsT.of_owb {z : Nat} {W : World} {v : Value} {b : List UInt8} (h : OwB W z v b) : BsT z W v b := ⟨h.bs, fun j hj => by
 rcases h.2 with ⟨rfl, _⟩ | ⟨g, cap, cur, rfl, hb, hgb, _⟩
 ·cases hj
 ·obtain rfl : g = j := by simpa [Value.ownBlock] using hj
  exact ⟨hb, _, _, hgb⟩⟩
end Go.Proofs.YtagghghoimpofaaGreatDoor

/-
 Layer 15: the program's disk in memory: its blocks.
-/
namespace Go.Proofs.YtagghghoimpofaaGreatDoor
open Go Go.RowKit Mono
open Go.Maps (Keyed has size)
open Go.ChangeMaps Go.MapKept Go.WideShapes
open Go.WideElems (Fit rg)
set_option linter.unusedVariables false

/-- The pointer of a file, read as its block's number. -/
def ptrR (v : Value) : Option (DataW Unit × List MemPlace) := match v with
 | .pointer (some ⟨b, 0, none⟩) => some (.lit (.int .u64 b), [])
 | .pointer none => some (.nil, [])
 | _ => none
theorem ptrR_inv {v : Value} {b : Nat} {ps : List MemPlace} (h : ptrR v = some (.lit (.int .u64 b), ps)) : v = .pointer (some ⟨b, 0, none⟩) := by
 unfold ptrR at h
 split at h
 ·rename_i b'
  injection h with h
  injection h with h _
  injection h with h
  injection h with _ h
  have : b' = b := by omega
  rw [this]
 ·injection h with h
  injection h with h _
  cases h
 ·cases h
theorem ptrR_mk (b : Nat) : ptrR (.pointer (some ⟨b, 0, none⟩)) = some (.lit (.int .u64 b), []) := rfl
def ptrD (b : Nat) : DataW Unit := .lit (.int .u64 b)
theorem keyS : Keyed Tryz.prog 9 := Maps.string_keyed Tryz.underlying9
theorem keyOf_str (s : List UInt8) (h : s.length ≤ maxLen) : keyOf Tryz.prog 9 (strV s) = some (Lit.string s) := by
 have hz : ByteArray.size ⟨s.toArray⟩ ≤ maxLen := by simpa [ByteArray.size] using h
 simp [strV, keyOf, Tryz.underlying9, mapKey, hz]
/-- A file in memory. -/
structure FilM where
 name : List UInt8
 blk : Nat
 v : Value
 b : List UInt8
 sure : Nat
def FilM.fil (m : FilM) : Fil := ⟨m.name, m.b, m.sure⟩
structure MapIs (D : DataW Unit) (ms : List FilM) : Prop where
 has_ : ∀ n, has D (.string n) = ms.any fun m => m.name == n
 at_ : ∀ m ∈ ms, ∀ z, D.atKey (.string m.name) z = ptrD m.blk
 size_ : size D = ms.length
def planV (p : Option (Nat × Int)) (pl : Nat) : Value := match p with
 | none => .pointer none
 | some _ => .pointer (some ⟨pl, 0, none⟩)
def dstrU (u : Int) (d : Dk) (bm pl : Nat) : List Value := [.int .i64 (d.room : Int), .map (some bm), .bool d.on, .int .i64 u, .int .i64 (d.ops : Int), .int .i64 (d.fails : Int), planV d.plan pl]
/-- .. with the count of its files' bytes. -/
abbrev dstrC (d : Dk) (bm pl : Nat) : List Value := dstrU (d.used : Int) d bm pl
/-- The disk d in memory, at or behind z; the count u of bytes as it stands there. -/
structure DkU (u : Int) (z : Nat) (W : World) (bd bm pl : Nat) (d : Dk) (ms : List FilM) : Prop where
 fs : ms.map FilM.fil = d.fs
 str : BlkT W bd 42 (dstrU u d bm pl)
 plan : ∀ n k, d.plan = some (n, k) → BlkT W pl 120 [.int .i64 (n : Int), .int .i64 k] ∧ z ≤ pl
 map : ∃ n D, W.ownsMap Tryz.prog 9 ptrR bm n D ∧ MapIs D ms
 files : ∀ m ∈ ms, BlkT W m.blk 106 [m.v, .int .i64 (m.sure : Int)] ∧ z ≤ m.blk
 bytes : ∀ m ∈ ms, BsT z W m.v m.b
 blks : ms.Pairwise fun a b => a.blk ≠ b.blk
 zd : z ≤ bd
 zm : z ≤ bm
/-- The disk d in memory. -/
abbrev DkM (z : Nat) (W : World) (bd bm pl : Nat) (d : Dk) (ms : List FilM) : Prop := DkU (d.used : Int) z W bd bm pl d ms
/-- The blocks that the disk writes. -/
def dfp (bd bm pl : Nat) (d : Dk) (ms : List FilM) (k : Nat) : Prop := k = bd ∨ k = bm ∨ (d.plan.isSome = true ∧ k = pl) ∨ ∃ m ∈ ms, k = m.blk
theorem DkU.kb {u : Int} {z bd bm pl : Nat} {W W' : World} {d : Dk} {ms : List FilM} {fp : Nat → Prop} (h : DkU u z W bd bm pl d ms) (k : Kb fp W W') (hn : ∀ j, dfp bd bm pl d ms j → ¬ fp j) (hb : ∀ m ∈ ms, ∀ j, m.v.ownBlock = some j → ¬ fp j) : DkU u z W' bd bm pl d ms := by
 refine ⟨h.fs, h.str.kb k (hn bd (.inl rfl)), fun n kk hp => ⟨(h.plan n kk hp).1.kb k (hn pl (.inr (.inr (.inl ⟨by rw [hp]; rfl, rfl⟩)))), (h.plan n kk hp).2⟩, ?_, fun m hm => ⟨(h.files m hm).1.kb k (hn _ (.inr (.inr (.inr ⟨m, hm, rfl⟩)))), (h.files m hm).2⟩, fun m hm => (h.bytes m hm).kb k (hb m hm), h.blks, h.zd, h.zm⟩
 obtain ⟨n, D, ⟨es, clock, hb', hF, hs, hD⟩, hm⟩ := h.map
 exact ⟨n, D, ⟨es, clock, (k.block bm (Array.getElem?_eq_some_iff.1 hb').1 (hn bm (.inr (.inl rfl)))).trans hb', hF, hs, hD⟩, hm⟩
theorem DkU.ext {u : Int} {z bd bm pl : Nat} {W W' : World} {d : Dk} {ms : List FilM} (h : DkU u z W bd bm pl d ms) (he : Ext W W') : DkU u z W' bd bm pl d ms :=
 h.kb (Kb.of_ext (fp := fun _ => False) he) (fun _ _ h => h) (fun _ _ _ _ h => h)
theorem DkU.low {u : Int} {z bd bm pl : Nat} {W : World} {d : Dk} {ms : List FilM} (h : DkU u z W bd bm pl d ms) : ∀ j, dfp bd bm pl d ms j → z ≤ j := by
 rintro j (rfl | rfl | ⟨hp, rfl⟩ | ⟨m, hm, rfl⟩)
 ·exact h.zd
 ·exact h.zm
 ·obtain ⟨⟨n, k⟩, hp⟩ := Option.isSome_iff_exists.1 hp
  exact (h.plan n k hp).2
 ·exact (h.files m hm).2
end Go.Proofs.YtagghghoimpofaaGreatDoor

/-
 Layer 15: what refuses a disk; a file by its name; the counts.
-/
namespace Go.Proofs.YtagghghoimpofaaGreatDoor
open Go Go.RowKit Mono
set_option linter.unusedVariables false
set_option linter.unusedSimpArgs false
set_option maxRecDepth 100000

/-- Is a map nil? -/
theorem eqlMap (m : Option Nat) (W : World) : (binOp .eql 39 (.map m) (.map none)).run Tryz.prog W = .ok (.bool m.isNone) W := by
 have hu := Tryz.underlying39
 unfold binOp
 simp only [Op.equal]
 rw [show Op.maxDepth = 9999 + 1 from rfl, Op.equalIn]
 cases m <;> simp [run_underlying hu, go_sem]
def faultN (d : Dk) : Nat := if d.on = true then 0 else 150
theorem fault_any {z bd bm pl : Nat} {W : World} {d : Dk} {ms : List FilM} (h : DkM z W bd bm pl d ms) : Calls Tryz.prog 69 #[.pointer (some ⟨bd, 0, none⟩)] W fun e w' => e = .returned (.int .i64 ((faultN d : Nat) : Int)) ∧ w' = W := by
 have k1 := h.str.blk.cell (i := 1) rfl
 have hn := eqlMap (some bm)
 have k2 := h.str.blk.cell (i := 2) rfl
 unfold faultN
 cases hon : d.on
 ·rw [hon] at k2
  go_enter Tryz.func69, Tryz.ntmps69
  go_wp2_with fail
  go_ret
  exact ⟨rfl, rfl⟩
 ·rw [hon] at k2
  go_enter Tryz.func69, Tryz.ntmps69
  go_wp2_with fail
  go_ret
  exact ⟨rfl, rfl⟩
end Go.Proofs.YtagghghoimpofaaGreatDoor

/-
 Layer 15: a file by its name.
-/
namespace Go.Proofs.YtagghghoimpofaaGreatDoor
open Go Go.RowKit Mono
open Go.Maps (Keyed has size)
open Go.ChangeMaps Go.MapKept Go.WideShapes
set_option linter.unusedVariables false
set_option linter.unusedSimpArgs false
set_option maxRecDepth 100000

def findM (name : List UInt8) (ms : List FilM) : Option FilM := ms.find? fun m => m.name == name
def lookV (name : List UInt8) (ms : List FilM) : Value := match findM name ms with
 | some m => .pointer (some ⟨m.blk, 0, none⟩)
 | none => .pointer none
theorem findM_fil (name : List UInt8) : ∀ (ms : List FilM), findF name (ms.map FilM.fil) = (findM name ms).map FilM.fil
 | [] => rfl
 | m :: r => by
  have ih := findM_fil name r
  unfold findF findM at *
  rw [List.map_cons, List.find?_cons, List.find?_cons]
  have hn : (FilM.fil m).name = m.name := rfl
  rw [hn]
  cases m.name == name
  ·exact ih
  ·rfl
theorem ptrR_nil {v : Value} {ps : List MemPlace} (h : ptrR v = some (.nil, ps)) : v = .pointer none := by
 unfold ptrR at h
 split at h
 ·injection h with h
  injection h with h _
  cases h
 ·rfl
 ·cases h
theorem zeroPtr (W : World) : (zeroValue 102).run Tryz.prog W = .ok (.pointer none) W := by kernel_rfl
theorem DkM.look {z bd bm pl : Nat} {W : World} {d : Dk} {ms : List FilM} (h : DkM z W bd bm pl d ms) (name : List UInt8) (hl : name.length ≤ maxLen) : (Instr.lookup 39 (.map (some bm)) (strV name) false).run Tryz.prog W = .ok (lookV name ms) W := by
 obtain ⟨n, D, ho, hm⟩ := h.map
 obtain ⟨v, ps, hrun, hv⟩ := ho.lookup keyS Tryz.underlying39 (zeroPtr W) (show ptrR (.pointer none) = some (.nil, []) from rfl) (keyOf_str name hl)
 rw [hrun]
 unfold lookV
 cases hf : findM name ms with
 | some m =>
  have hmem := List.mem_of_find?_eq_some hf
  have hn : m.name = name := by have := List.find?_some hf; simpa using this
  have := hm.at_ m hmem .nil
  rw [hn] at this
  rw [this] at hv
  rw [ptrR_inv hv]
 | none =>
  have hno : has D (.string name) = false := by
   rw [hm.has_, List.any_eq_false]
   intro m hmm
   have := List.find?_eq_none.1 hf m hmm
   simpa using this
  rw [Maps.atKey_of_not_has hno] at hv
  rw [ptrR_nil hv]
theorem DkM.mlen {z bd bm pl : Nat} {W : World} {d : Dk} {ms : List FilM} (h : DkM z W bd bm pl d ms) (ty : TypeId) : (Builtin.len_ #[39] ty #[.map (some bm)]).run Tryz.prog W = .ok (.int .i64 (ms.length : Int)) W := by
 obtain ⟨n, D, ho, hm⟩ := h.map
 rw [ho.len Tryz.underlying39 ty, hm.size_]
def findN (name : List UInt8) (d : Dk) (ms : List FilM) : Nat := if d.on = false then 150 else if (findM name ms).isSome = true then 0 else 152
def findV (name : List UInt8) (d : Dk) (ms : List FilM) : Value := if d.on = false then .pointer none else lookV name ms
theorem find_any {z bd bm pl : Nat} {W : World} {d : Dk} {ms : List FilM} (h : DkM z W bd bm pl d ms) (name : List UInt8) (hl : name.length ≤ maxLen) :
  Calls Tryz.prog 72 #[.pointer (some ⟨bd, 0, none⟩), strV name] W fun e w' => e = .returned (.tuple #[findV name d ms, .int .i64 ((findN name d ms : Nat) : Int)]) ∧ w' = W := by
 have k1 := h.str.blk.cell (i := 1) rfl
 have HF := Lib.hid (fault_any h)
 have hk := h.look name hl
 unfold faultN at HF
 unfold findV findN
 unfold strV at hk ⊢
 cases hon : d.on
 ·rw [hon] at HF
  go_enter Tryz.func72, Tryz.ntmps72
  go_wp2_with fail
  refine HF.out.mono ?_
  rintro e w1 ⟨rfl, rfl⟩
  go_wp2_with fail
  go_ret2
  exact ⟨rfl, rfl⟩
 ·rw [hon] at HF
  unfold lookV at hk ⊢
  cases hf : findM name ms with
  | none =>
   rw [hf] at hk
   dsimp only at hk
   go_enter Tryz.func72, Tryz.ntmps72
   go_wp2_with fail
   refine HF.out.mono ?_
   rintro e w1 ⟨rfl, rfl⟩
   go_wp2_with fail
   go_ret2
   exact ⟨rfl, rfl⟩
  | some m =>
   rw [hf] at hk
   dsimp only at hk
   go_enter Tryz.func72, Tryz.ntmps72
   go_wp2_with fail
   refine HF.out.mono ?_
   rintro e w1 ⟨rfl, rfl⟩
   go_wp2_with fail
   go_ret2
   exact ⟨rfl, rfl⟩
end Go.Proofs.YtagghghoimpofaaGreatDoor

/-
 Layer 15: a new disk; the counts; power.
-/
namespace Go.Proofs.YtagghghoimpofaaGreatDoor
open Go Go.RowKit Mono
open Go.Maps (Keyed has size)
set_option linter.unusedVariables false
set_option linter.unusedSimpArgs false
set_option maxRecDepth 100000

theorem MapIs.empty : MapIs (.map []) [] := ⟨fun n => rfl, fun m hm => (by cases hm), rfl⟩
theorem dkNew_bad (room : Int) (W : World) (h : room < 0 ∨ 1073741824 < room) : Calls Tryz.prog 4 #[.int .i64 room] W fun e w' => e = .returned (.pointer none) ∧ w' = W := by
 by_cases h1 : room < 0
 ·go_enter Tryz.func4, Tryz.ntmps4
  go_wp2_with fail
  go_ret
  exact ⟨rfl, rfl⟩
 ·have h2 : 1073741824 < room := h.resolve_left h1
  go_enter Tryz.func4, Tryz.ntmps4
  go_wp2_with fail
  go_ret
  exact ⟨rfl, rfl⟩
theorem dkNew_any (room : Nat) (W : World) (h : room ≤ 1073741824) : Calls Tryz.prog 4 #[.int .i64 (room : Int)] W fun e w' => e = .returned (.pointer (some ⟨W.heap.size + 1, 0, none⟩)) ∧ Ext W w' ∧ DkM W.heap.size w' (W.heap.size + 1) W.heap.size 0 (Dk.fresh room) [] := by
 have h1 : ¬ ((room : Int) < 0) := by omega
 have h2 : ¬ (1073741824 < (room : Int)) := by omega
 have hmk : ∀ w : World, (Instr.makeMap 39 none).run Tryz.prog w = .ok (.map (some w.heap.size)) (w.alloc (.map #[] 0)) := fun w => run_makeMap_plain w _
 go_enter Tryz.func4, Tryz.ntmps4
 go_wp2_with fail
 go_ret
 refine ⟨rfl, ?_, ?_⟩
 ·exact (ext_alloc _ _).trans (ext_alloc _ _)
 ·refine ⟨rfl, ?_, fun n k hp => (by cases hp), ⟨0, .map [], (World.ownsMap_made W _ _ _).alloc _, MapIs.empty⟩, by simp, by simp, List.Pairwise.nil, by omega, Nat.le_refl _⟩
  have := BlkT.new (W.alloc (.map #[] 0)) #[.int .i64 (room : Int), .map (some W.heap.size), .bool true, .int .i64 0, .int .i64 0, .int .i64 0, .pointer none] 42
  rw [World.size_alloc] at this
  exact this
/-- A field that is told as it is. -/
theorem used_any {z bd bm pl : Nat} {W : World} {d : Dk} {ms : List FilM} (h : DkM z W bd bm pl d ms) : Calls Tryz.prog 58 #[.pointer (some ⟨bd, 0, none⟩)] W fun e w' => e = .returned (.int .i64 (d.used : Int)) ∧ w' = W := by
 have k := h.str.blk.cell (i := 3) rfl
 go_enter Tryz.func58, Tryz.ntmps58
 go_wp2_with fail
 go_ret
 exact ⟨rfl, rfl⟩
theorem ops_any {z bd bm pl : Nat} {W : World} {d : Dk} {ms : List FilM} (h : DkM z W bd bm pl d ms) : Calls Tryz.prog 60 #[.pointer (some ⟨bd, 0, none⟩)] W fun e w' => e = .returned (.int .i64 (d.ops : Int)) ∧ w' = W := by
 have k := h.str.blk.cell (i := 4) rfl
 go_enter Tryz.func60, Tryz.ntmps60
 go_wp2_with fail
 go_ret
 exact ⟨rfl, rfl⟩
theorem fails_any {z bd bm pl : Nat} {W : World} {d : Dk} {ms : List FilM} (h : DkM z W bd bm pl d ms) : Calls Tryz.prog 35 #[.pointer (some ⟨bd, 0, none⟩)] W fun e w' => e = .returned (.int .i64 (d.fails : Int)) ∧ w' = W := by
 have k := h.str.blk.cell (i := 5) rfl
 go_enter Tryz.func35, Tryz.ntmps35
 go_wp2_with fail
 go_ret
 exact ⟨rfl, rfl⟩
end Go.Proofs.YtagghghoimpofaaGreatDoor

/-
 Layer 15: a field is written; power; a plan is laid.
-/
namespace Go.Proofs.YtagghghoimpofaaGreatDoor
open Go Go.RowKit Mono
open Go.Maps (Keyed has size)
set_option linter.unusedVariables false
set_option linter.unusedSimpArgs false
set_option maxRecDepth 100000

theorem map_ne {W : World} {b bm n : Nat} {T : TypeId} {L : List Value} {D : DataW Unit} (h : BlkT W b T L) (hm : W.ownsMap Tryz.prog 9 ptrR bm n D) : b ≠ bm := by
 rintro rfl
 obtain ⟨es, clock, hb, _⟩ := hm
 unfold BlkT at h
 rw [h] at hb
 cases hb
/-- A field of the disk is written. -/
theorem DkU.put {u u' : Int} {z bd bm pl pl' : Nat} {W : World} {d d' : Dk} {ms : List FilM} (h : DkU u z W bd bm pl d ms) (i : Nat) (v : Value) (hc : (dstrU u d bm pl).set i v = dstrU u' d' bm pl') (hfs : d'.fs = d.fs)
  (hp : ∀ n k, d'.plan = some (n, k) → BlkT W pl' 120 [.int .i64 (n : Int), .int .i64 k] ∧ z ≤ pl') : DkU u' z (W.setCell ⟨bd, i, none⟩ v) bd bm pl' d' ms := by
 have hset := h.str.set i v
 rw [hc] at hset
 obtain ⟨n, D, ho, hm⟩ := h.map
 refine ⟨h.fs.trans hfs.symm, hset, fun n k hpl => ⟨(hp n k hpl).1.other v ((hp n k hpl).1.ne h.str (by decide)), (hp n k hpl).2⟩, ⟨n, D, ho.setCell (map_ne h.str ho).symm v, hm⟩, fun m hm => ⟨(h.files m hm).1.other v ((h.files m hm).1.ne h.str (by decide)), (h.files m hm).2⟩, fun m hm => ?_, h.blks, h.zd, h.zm⟩
 exact (h.bytes m hm).kb (Kb.set (fun k => k = bd) W bd i v rfl) (fun j hj e => (h.bytes m hm).ne h.str (by decide) j hj e)
theorem on_any {z bd bm pl : Nat} {W : World} {d : Dk} {ms : List FilM} (h : DkM z W bd bm pl d ms) : Calls Tryz.prog 61 #[.pointer (some ⟨bd, 0, none⟩)] W fun e w' => e = .returned (.bool d.on) ∧ w' = W := by
 have HF := Lib.hid (fault_any h)
 unfold faultN at HF
 cases hon : d.on
 all_goals
  rw [hon] at HF
  go_enter Tryz.func61, Tryz.ntmps61
  go_wp2_with fail
  refine HF.out.mono ?_
  rintro e w1 ⟨rfl, rfl⟩
  go_wp2_with fail
  go_ret
  exact ⟨rfl, rfl⟩
theorem power_any {z bd bm pl : Nat} {W : World} {d : Dk} {ms : List FilM} (h : DkM z W bd bm pl d ms) : Calls Tryz.prog 27 #[.pointer (some ⟨bd, 0, none⟩)] W fun e w' => e = .returned (.int .i64 0) ∧ DkM z w' bd bm pl (dPower d) ms ∧ Kb (fun k => k = bd) W w' := by
 have HF := Lib.hid (fault_any h)
 have HP := Lib.hid (h.put (u' := (d.used : Int)) (d' := dPower d) (pl' := pl) 2 (.bool true) rfl rfl h.plan)
 have HK := Lib.hid (Kb.set (fun k => k = bd) W bd 2 (.bool true) rfl)
 have k2 := h.str.blk.cell (i := 2) rfl
 have t2 := h.str.blk.thaw 2
 unfold faultN at HF
 cases hon : d.on
 all_goals
  rw [hon] at HF
  go_enter Tryz.func27, Tryz.ntmps27
  go_wp2_with fail
  refine HF.out.mono ?_
  rintro e w1 ⟨rfl, rfl⟩
  go_wp2_with fail
  go_ret
  exact ⟨rfl, HP.out, HK.out⟩
end Go.Proofs.YtagghghoimpofaaGreatDoor

/-
 Layer 15: a plan is laid; a file is read.
-/
namespace Go.Proofs.YtagghghoimpofaaGreatDoor
open Go Go.RowKit Mono
open Go.Maps (Keyed has size)
set_option linter.unusedVariables false
set_option linter.unusedSimpArgs false
set_option maxRecDepth 100000

theorem arm_any {z bd bm pl : Nat} {W : World} {d : Dk} {ms : List FilM} (h : DkM z W bd bm pl d ms) (n keep : Int) (hz : z ≤ W.heap.size) : Calls Tryz.prog 62 #[.pointer (some ⟨bd, 0, none⟩), .int .i64 n, .int .i64 keep] W fun e w' =>
  ∃ pl', e = .returned (.int .i64 (((dArm d n keep).2 : Nat) : Int)) ∧ DkM z w' bd bm pl' (dArm d n keep).1 ms ∧ Kb (fun k => k = bd) W w' ∧ (pl' = pl ∧ (dArm d n keep).1 = d ∨ W.heap.size ≤ pl') := by
 have HF := Lib.hid (fault_any h)
 have HH := Lib.hid h
 unfold faultN at HF
 unfold dArm
 cases hon : d.on
 ·rw [hon] at HF
  go_enter Tryz.func62, Tryz.ntmps62
  go_wp2_with fail
  refine HF.out.mono ?_
  rintro e w1 ⟨rfl, rfl⟩
  go_wp2_with fail
  go_ret
  first | exact ⟨pl, rfl, HH.out, Kb.refl _ _, by simp⟩ | exact ⟨rfl, pl, HH.out, Kb.refl _ _, by simp⟩
 ·rw [hon] at HF
  by_cases hn : n < 0
  ·simp only [hn, if_true, if_false, Bool.true_eq_false]
   go_enter Tryz.func62, Tryz.ntmps62
   go_wp2_with fail
   refine HF.out.mono ?_
   rintro e w1 ⟨rfl, rfl⟩
   go_wp2_with fail
   go_ret
   first | exact ⟨pl, rfl, HH.out, Kb.refl _ _, by simp⟩ | exact ⟨rfl, pl, HH.out, Kb.refl _ _, by simp⟩
  ·simp only [hn, if_false, Bool.true_eq_false]
   have hx := ext_alloc W (.cells #[.int .i64 n, .int .i64 keep] 120)
   have h1 := h.ext hx
   have hb := BlkT.new W #[.int .i64 n, .int .i64 keep] 120
   have HP := Lib.hid (h1.put (u' := (d.used : Int)) (d' := { d with plan := some (n.toNat, keep) }) (pl' := W.heap.size) 6 (.pointer (some ⟨W.heap.size, 0, none⟩)) rfl rfl (fun a b hab => by
    injection hab with hab
    injection hab with e1 e2
    subst e1 e2
    rw [Int.toNat_of_nonneg (by omega)]
    exact ⟨hb, hz⟩))
   have HK := Lib.hid ((Kb.of_ext (fp := fun k => k = bd) hx).trans (Kb.set (fun k => k = bd) _ bd 6 (.pointer (some ⟨W.heap.size, 0, none⟩)) rfl) (fun _ h => .inl h))
   rw [hon] at HP
   have k6 := h1.str.blk.cell (i := 6) rfl
   have t6 := h1.str.blk.thaw 6
   clear h1 hx hb
   go_enter Tryz.func62, Tryz.ntmps62
   go_wp2_with fail
   refine HF.out.mono ?_
   rintro e w1 ⟨rfl, rfl⟩
   go_wp2_with fail
   go_ret
   first | exact ⟨_, rfl, HP.out, HK.out, .inr (Nat.le_refl _)⟩ | exact ⟨rfl, _, HP.out, HK.out, .inr (Nat.le_refl _)⟩
end Go.Proofs.YtagghghoimpofaaGreatDoor

/-
 Layer 15: a field of a file is written.
-/
namespace Go.Proofs.YtagghghoimpofaaGreatDoor
open Go Go.RowKit Mono
open Go.Maps (Keyed has size)
set_option linter.unusedVariables false
set_option linter.unusedSimpArgs false
set_option maxRecDepth 100000

theorem MapIs.swap {D : DataW Unit} {l r : List FilM} {m m' : FilM} (h : MapIs D (l ++ m :: r)) (hn : m'.name = m.name) (hb : m'.blk = m.blk) : MapIs D (l ++ m' :: r) := by
 refine ⟨fun n => ?_, fun x hx z => ?_, by rw [h.size_]; simp⟩
 ·rw [h.has_]
  simp [hn]
 ·rcases List.mem_append.1 hx with hx | hx
  ·exact h.at_ x (by simp [hx]) z
  ·rcases List.mem_cons.1 hx with rfl | hx
   ·rw [hn, hb]
    exact h.at_ m (by simp) z
   ·exact h.at_ x (by simp [hx]) z
/-- A field of a file is written; the count stays. -/
theorem DkU.fput {u : Int} {z bd bm pl : Nat} {W : World} {d d' : Dk} {l r : List FilM} {m m' : FilM} (h : DkU u z W bd bm pl d (l ++ m :: r)) (i : Nat) (v : Value) (hn : m'.name = m.name) (hb : m'.blk = m.blk)
  (hc : [m.v, Value.int .i64 (m.sure : Int)].set i v = [m'.v, .int .i64 (m'.sure : Int)]) (hbs : BsT z W m'.v m'.b) (hd : dstrU u d' bm pl = dstrU u d bm pl) (hp : d'.plan = d.plan) (hfs : (l ++ m' :: r).map FilM.fil = d'.fs) :
  DkU u z (W.setCell ⟨m.blk, i, none⟩ v) bd bm pl d' (l ++ m' :: r) := by
 have hm := (h.files m (by simp)).1
 have hset := hm.set i v
 rw [hc] at hset
 obtain ⟨n, D, ho, hmap⟩ := h.map
 have hpw := List.pairwise_append.1 h.blks
 have hpr := List.pairwise_cons.1 hpw.2.1
 have hkb := Kb.set (fun k => k = m.blk) W m.blk i v rfl
 have keepB : ∀ {x : Value} {b : List UInt8}, BsT z W x b → BsT z (W.setCell ⟨m.blk, i, none⟩ v) x b := fun hx => hx.kb hkb (fun j hj e => hx.ne hm (by decide) j hj e)
 refine ⟨hfs, ?_, fun a k hpl => ⟨(h.plan a k (hp ▸ hpl)).1.other v ((h.plan a k (hp ▸ hpl)).1.ne hm (by decide)), (h.plan a k (hp ▸ hpl)).2⟩, ⟨n, D, ho.setCell (map_ne hm ho).symm v, hmap.swap hn hb⟩, fun x hx => ?_, fun x hx => ?_, ?_, h.zd, h.zm⟩
 ·rw [hd]
  exact h.str.other v (h.str.ne hm (by decide))
 ·rcases List.mem_append.1 hx with hx | hx
  ·exact ⟨(h.files x (by simp [hx])).1.other v (hpw.2.2 x hx m List.mem_cons_self), (h.files x (by simp [hx])).2⟩
  ·rcases List.mem_cons.1 hx with rfl | hx
   ·rw [hb]
    exact ⟨hset, (h.files m (by simp)).2⟩
   ·exact ⟨(h.files x (by simp [hx])).1.other v (fun e => hpr.1 x hx e.symm), (h.files x (by simp [hx])).2⟩
 ·rcases List.mem_append.1 hx with hx | hx
  ·exact keepB (h.bytes x (by simp [hx]))
  ·rcases List.mem_cons.1 hx with rfl | hx
   ·exact keepB hbs
   ·exact keepB (h.bytes x (by simp [hx]))
 ·refine List.pairwise_append.2 ⟨hpw.1, List.pairwise_cons.2 ⟨fun x hx => by rw [hb]; exact hpr.1 x hx, hpr.2⟩, fun x hx y hy => ?_⟩
  rcases List.mem_cons.1 hy with rfl | hy
  ·rw [hb]
   exact hpw.2.2 x hx m List.mem_cons_self
  ·exact hpw.2.2 x hx y (List.mem_cons_of_mem _ hy)
end Go.Proofs.YtagghghoimpofaaGreatDoor

/-
 Layer 15: a file is read.
-/
namespace Go.Proofs.YtagghghoimpofaaGreatDoor
open Go Go.RowKit Mono
open Go.Maps (Keyed has size)
set_option linter.unusedVariables false
set_option linter.unusedSimpArgs false
set_option maxRecDepth 100000

theorem findF_fs {u : Int} {z bd bm pl : Nat} {W : World} {d : Dk} {ms : List FilM} (h : DkU u z W bd bm pl d ms) (name : List UInt8) : findF name d.fs = (findM name ms).map FilM.fil := by
 rw [← h.fs, findM_fil]
theorem findM_mem {name : List UInt8} {ms : List FilM} {m : FilM} (h : findM name ms = some m) : m ∈ ms ∧ m.name = name := by
 refine ⟨List.mem_of_find?_eq_some h, ?_⟩
 have := List.find?_some h
 simpa using this
theorem read_any {z bd bm pl : Nat} {W : World} {d : Dk} {ms : List FilM} (h : DkM z W bd bm pl d ms) (hok : d.Ok) (name : List UInt8) (hl : name.length ≤ maxLen) :
  Calls Tryz.prog 34 #[.pointer (some ⟨bd, 0, none⟩), strV name] W fun e w' => ∃ v, e = .returned (.tuple #[v, .int .i64 (((dRead d name).2 : Nat) : Int)]) ∧ OwB w' W.heap.size v (dRead d name).1 ∧ Ext W w' := by
 have HF := Lib.hid (find_any h name hl)
 have hfs := findF_fs h name
 unfold findV findN lookV at HF
 unfold dRead
 rw [hfs]
 unfold strV at HF ⊢
 cases hon : d.on
 ·rw [hon] at HF
  clear hfs
  go_enter Tryz.func34, Tryz.ntmps34
  go_wp2_with fail
  refine HF.out.mono ?_
  rintro e w1 ⟨rfl, rfl⟩
  go_wp2_with fail
  go_ret2
  exact ⟨_, rfl, OwB.nil_ _ _, Ext.refl _⟩
 ·rw [hon] at HF
  cases hf : findM name ms with
  | none =>
   rw [hf] at HF
   clear hfs
   go_enter Tryz.func34, Tryz.ntmps34
   go_wp2_with fail
   refine HF.out.mono ?_
   rintro e w1 ⟨rfl, rfl⟩
   go_wp2_with fail
   go_ret2
   exact ⟨_, rfl, OwB.nil_ _ _, Ext.refl _⟩
  | some m =>
   rw [hf] at HF
   obtain ⟨hm, -⟩ := findM_mem hf
   have k0 := ((h.files m hm).1.ext (ext_alloc W (.cells #[] 5))).blk.cell (i := 0) rfl
   have HB := Lib.hid (h.bytes m hm).bs
   have hlen : m.b.length ≤ 1048576 := hok.len m.fil (by rw [← h.fs]; exact List.mem_map.2 ⟨m, hm, rfl⟩)
   clear hfs hm
   go_enter Tryz.func34, Tryz.ntmps34
   go_wp2_with fail
   refine HF.out.mono ?_
   rintro e w1 ⟨rfl, rfl⟩
   go_wp2_with (at_builtin; refine wpList_append_bs _ rfl (.tmp 17) (.tmp 21) rfl (OwB.empty_ w1 (Nat.le_refl _)) (HB.out.ext (ext_alloc _ _)) rfl rfl (by simp; omega) (by simp) ?_; intro v1 w2 hown1 hg1 hat1; have hb1 : Ext w1 w2 := Below.growB (ext_alloc w1 _) (OwB.empty_ w1 (Nat.le_refl _)) hg1 (Nat.le_refl _) (by simp))
   go_ret2
   exact ⟨_, rfl, by simpa [FilM.fil] using hown1, hb1⟩
end Go.Proofs.YtagghghoimpofaaGreatDoor

/-
 Layer 15: what stands while the power fails.
-/
namespace Go.Proofs.YtagghghoimpofaaGreatDoor
open Go Go.RowKit Mono
open Go.Maps (Keyed has size)
set_option linter.unusedVariables false
set_option linter.unusedSimpArgs false
set_option maxRecDepth 100000

/-- A slice cut behind its first n elements, with no room. -/
def cutV (v : Value) (n : Nat) : Value := match v with
 | .slice A _ _ => .slice A n n
 | v => v
def FilM.cut (m : FilM) (n : Nat) (sure : Nat) : FilM := ⟨m.name, m.blk, cutV m.v n, m.b.take n, sure⟩
def FilM.lose (keep : Int) (m : FilM) : FilM := m.cut (keepN keep m.fil) (keepN keep m.fil)
theorem FilM.lose_fil (keep : Int) (m : FilM) : (m.lose keep).fil = m.fil.lose keep := rfl
theorem cutV_own (A : Option Addr) (a c n : Nat) : (cutV (.slice A a c) n).ownBlock = (Value.slice A a c).ownBlock := by cases A <;> rfl
theorem BsT.cut {z : Nat} {W : World} {v : Value} {b : List UInt8} (h : BsT z W v b) {n : Nat} (hn : n ≤ b.length) : BsT z W (cutV v n) (b.take n) := by
 obtain ⟨A, c, rfl, h1, h2, h3, h4⟩ := h.bs.open_
 refine ⟨Bs.mk (by simp; omega) (Nat.le_refl _) (by omega) (fun hA => ?_) (fun h0 => ?_), fun j hj => h.typed j ((cutV_own A b.length c n).symm.trans hj)⟩
 ·have := h3 hA
  omega
 ·have hl : 0 < b.length := by simp at h0; omega
  obtain ⟨g, off, hA, hg, hc⟩ := h4 hl
  refine ⟨g, off, hA, hg, fun i x hx => hc i x ?_⟩
  rw [List.getElem?_take] at hx
  split at hx
  ·exact hx
  ·cases hx
end Go.Proofs.YtagghghoimpofaaGreatDoor

/-
 Layer 15: what stands while the power fails: some files have been cut, others are still to come.
-/
namespace Go.Proofs.YtagghghoimpofaaGreatDoor
open Go Go.RowKit Mono
open Go.Maps (Keyed has size)
set_option linter.unusedVariables false
set_option linter.unusedSimpArgs false
set_option maxRecDepth 100000

theorem bl_irrefl : ∀ s : List UInt8, Op.bytesLess s s = false
 | [] => rfl
 | a :: x => by
  unfold Op.bytesLess
  rw [bl_irrefl x]
  simp
/-- Those files are cut that are no longer to come. -/
def lsSt (keep : Int) (left : Lit → Bool) (ms : List FilM) : List FilM := ms.map fun m => if left (.string m.name) = true then m else m.lose keep
theorem lsSt_start {D : DataW Unit} {ms : List FilM} (h : MapIs D ms) (keep : Int) : lsSt keep (has D) ms = ms := by
 unfold lsSt
 conv => rhs; rw [← List.map_id ms]
 refine List.map_congr_left fun m hm => ?_
 rw [if_pos]
 ·rfl
 ·rw [h.has_]
  exact List.any_eq_true.2 ⟨m, hm, by simp⟩
theorem lsSt_end {left : Lit → Bool} (h : ∀ kl, left kl = false) (keep : Int) (ms : List FilM) : lsSt keep left ms = ms.map (FilM.lose keep) := by
 unfold lsSt
 refine List.map_congr_left fun m hm => ?_
 rw [h]
 rfl
theorem str_same (a b : List UInt8) : (Lit.string a).sameKey (.string b) = (a == b) := rfl
theorem lsSt_off {left : Lit → Bool} {keep : Int} {name : List UInt8} : ∀ (l : List FilM), (∀ x ∈ l, x.name ≠ name) → lsSt keep (fun z => left z && !z.sameKey (.string name)) l = lsSt keep left l := by
 intro l h
 unfold lsSt
 refine List.map_congr_left fun x hx => ?_
 have : (Lit.string x.name).sameKey (.string name) = false := by rw [str_same]; simpa using h x hx
 simp [this]
/-- One file is cut. -/
theorem lsSt_step {left : Lit → Bool} {keep : Int} {ms : List FilM} {m : FilM} (hm : m ∈ ms) (hp : ms.Pairwise fun a b => a.name ≠ b.name) (hl : left (.string m.name) = true) :
  ∃ l r, lsSt keep left ms = l ++ m :: r ∧ lsSt keep (fun z => left z && !z.sameKey (.string m.name)) ms = l ++ m.lose keep :: r := by
 obtain ⟨l, r, rfl⟩ := List.append_of_mem hm
 obtain ⟨h1, h2, h3⟩ := List.pairwise_append.1 hp
 obtain ⟨h4, h5⟩ := List.pairwise_cons.1 h2
 refine ⟨lsSt keep left l, lsSt keep left r, ?_, ?_⟩
 ·unfold lsSt
  simp [hl]
 ·have e1 := lsSt_off (left := left) (keep := keep) (name := m.name) l (fun x hx => h3 x hx m List.mem_cons_self)
  have e2 := lsSt_off (left := left) (keep := keep) (name := m.name) r (fun x hx e => h4 x hx e.symm)
  rw [← e1, ← e2]
  unfold lsSt
  simp [str_same]
theorem names_apart {u : Int} {z bd bm pl : Nat} {W : World} {d : Dk} {ms : List FilM} (h : DkU u z W bd bm pl d ms) (hok : d.Ok) : ms.Pairwise fun a b => a.name ≠ b.name := by
 have hs := hok.sorted
 rw [← h.fs] at hs
 refine (List.pairwise_map.1 hs).imp ?_
 intro a b hab e
 have : Op.bytesLess a.name b.name = true := hab
 rw [e] at this
 rw [bl_irrefl] at this
 cases this
theorem used_split (l r : List Fil) (m : Fil) : usedF (l ++ m :: r) = usedF l + m.b.length + usedF r := by
 unfold usedF
 simp
 omega
/-- An iterator is no block of the disk. -/
theorem DkU.iter {u : Int} {z bd bm pl r : Nat} {W : World} {d : Dk} {ms : List FilM} (h : DkU u z W bd bm pl d ms) {n cnt : Nat} {D : DataW Unit} {left : Lit → Bool} (hr : W.ranges Tryz.prog 9 ptrR bm r n D left cnt) :
  (∀ j, dfp bd bm pl d ms j → j ≠ r) ∧ ∀ m ∈ ms, ∀ j, m.v.ownBlock = some j → j ≠ r := by
 have hne := hr.ne
 obtain ⟨es, clock, since, seen, c0, _, _, _, _, hr, _⟩ := hr
 have no : ∀ {b : Nat} {T : TypeId} {L : List Value}, BlkT W b T L → b ≠ r := by
  rintro b T L hb rfl
  unfold BlkT at hb
  rw [hb] at hr
  cases hr
 refine ⟨?_, fun m hm j hj => ?_⟩
 ·rintro j (rfl | rfl | ⟨hp, rfl⟩ | ⟨m, hm, rfl⟩)
  ·exact no h.str
  ·exact fun e => hne e.symm
  ·obtain ⟨⟨n, k⟩, hp⟩ := Option.isSome_iff_exists.1 hp
   exact no (h.plan n k hp).1
  ·exact no (h.files m hm).1
 ·rintro rfl
  obtain ⟨_, C, fz, h2⟩ := (h.bytes m hm).typed j hj
  rw [h2] at hr
  cases hr
theorem grown_kb {W W' : World} {r : Nat} (h : W.grownBy W' (some r)) : Kb (fun k => k = r) W W' := Kb.grown h rfl
end Go.Proofs.YtagghghoimpofaaGreatDoor
