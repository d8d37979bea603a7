/-
  Layer 15: a file by its name.
-/
import Derived.Test.YtkejoiknnigllaaDkFault
namespace Go.Proofs.Ytkejoiknnigllaa
open Go Go.RowKit Mono
open Go.Maps (Keyed has size)
open Go.ChangeMaps Go.MapKept Go.WideShapes
set_option linter.unusedVariables false
set_option linter.unusedSimpArgs false
set_option maxRecDepth 100000

def findM (name : List UInt8) (ms : List FilM) : Option FilM := ms.find? fun m => m.name == name
def lookV (name : List UInt8) (ms : List FilM) : Value := match findM name ms with
  | some m => .pointer (some ⟨m.blk, 0, none⟩)
  | none => .pointer none
theorem findM_fil (name : List UInt8) : ∀ (ms : List FilM), findF name (ms.map FilM.fil) = (findM name ms).map FilM.fil
  | [] => rfl
  | m :: r => by
    have ih := findM_fil name r
    unfold findF findM at *
    rw [List.map_cons, List.find?_cons, List.find?_cons]
    have hn : (FilM.fil m).name = m.name := rfl
    rw [hn]
    cases m.name == name
    · exact ih
    · rfl
theorem ptrR_nil {v : Value} {ps : List MemPlace} (h : ptrR v = some (.nil, ps)) : v = .pointer none := by
  unfold ptrR at h
  split at h
  · injection h with h
    injection h with h _
    cases h
  · rfl
  · cases h
theorem zeroPtr (W : World) : (zeroValue 67).run Try.prog W = .ok (.pointer none) W := by kernel_rfl
theorem DkM.look {z bd bm pl : Nat} {W : World} {d : Dk} {ms : List FilM} (h : DkM z W bd bm pl d ms) (name : List UInt8) (hl : name.length ≤ maxLen) : (Instr.lookup 58 (.map (some bm)) (strV name) false).run Try.prog W = .ok (lookV name ms) W := by
  obtain ⟨n, D, ho, hm⟩ := h.map
  obtain ⟨v, ps, hrun, hv⟩ := ho.lookup keyS Try.underlying58 (zeroPtr W) (show ptrR (.pointer none) = some (.nil, []) from rfl) (keyOf_str name hl)
  rw [hrun]
  unfold lookV
  cases hf : findM name ms with
  | some m =>
    have hmem := List.mem_of_find?_eq_some hf
    have hn : m.name = name := by have := List.find?_some hf; simpa using this
    have := hm.at_ m hmem .nil
    rw [hn] at this
    rw [this] at hv
    rw [ptrR_inv hv]
  | none =>
    have hno : has D (.string name) = false := by
      rw [hm.has_, List.any_eq_false]
      intro m hmm
      have := List.find?_eq_none.1 hf m hmm
      simpa using this
    rw [Maps.atKey_of_not_has hno] at hv
    rw [ptrR_nil hv]
theorem DkM.mlen {z bd bm pl : Nat} {W : World} {d : Dk} {ms : List FilM} (h : DkM z W bd bm pl d ms) (ty : TypeId) : (Builtin.len_ #[58] ty #[.map (some bm)]).run Try.prog W = .ok (.int .i64 (ms.length : Int)) W := by
  obtain ⟨n, D, ho, hm⟩ := h.map
  rw [ho.len Try.underlying58 ty, hm.size_]
def findN (name : List UInt8) (d : Dk) (ms : List FilM) : Nat := if d.on = false then 150 else if (findM name ms).isSome = true then 0 else 152
def findV (name : List UInt8) (d : Dk) (ms : List FilM) : Value := if d.on = false then .pointer none else lookV name ms
theorem find_any {z bd bm pl : Nat} {W : World} {d : Dk} {ms : List FilM} (h : DkM z W bd bm pl d ms) (name : List UInt8) (hl : name.length ≤ maxLen) :
    Calls Try.prog 40 #[.pointer (some ⟨bd, 0, none⟩), strV name] W fun e w' => e = .returned (.tuple #[findV name d ms, .int .i64 ((findN name d ms : Nat) : Int)]) ∧ w' = W := by
  have k1 := h.str.blk.cell (i := 1) rfl
  have HF := Lib.hid (fault_any h)
  have hk := h.look name hl
  unfold faultN at HF
  unfold findV findN
  unfold strV at hk ⊢
  cases hon : d.on
  · rw [hon] at HF
    go_enter Try.func40, Try.ntmps40
    go_wp2_with fail
    refine HF.out.mono ?_
    rintro e w1 ⟨rfl, rfl⟩
    go_wp2_with fail
    go_ret2
    exact ⟨rfl, rfl⟩
  · rw [hon] at HF
    unfold lookV at hk ⊢
    cases hf : findM name ms with
    | none =>
      rw [hf] at hk
      dsimp only at hk
      go_enter Try.func40, Try.ntmps40
      go_wp2_with fail
      refine HF.out.mono ?_
      rintro e w1 ⟨rfl, rfl⟩
      go_wp2_with fail
      go_ret2
      exact ⟨rfl, rfl⟩
    | some m =>
      rw [hf] at hk
      dsimp only at hk
      go_enter Try.func40, Try.ntmps40
      go_wp2_with fail
      refine HF.out.mono ?_
      rintro e w1 ⟨rfl, rfl⟩
      go_wp2_with fail
      go_ret2
      exact ⟨rfl, rfl⟩
end Go.Proofs.Ytkejoiknnigllaa
