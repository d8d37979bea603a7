/-
  Layer 15: a new disk; the counts; power.
-/
import Derived.Test.YtkejoiknnigllaaDkFind
import Derived.WideMake
namespace Go.Proofs.Ytkejoiknnigllaa
open Go Go.RowKit Mono
open Go.Maps (Keyed has size)
set_option linter.unusedVariables false
set_option linter.unusedSimpArgs false
set_option maxRecDepth 100000

theorem MapIs.empty : MapIs (.map []) [] := ⟨fun n => rfl, fun m hm => (by cases hm), rfl⟩
theorem dkNew_bad (room : Int) (W : World) (h : room < 0 ∨ 1073741824 < room) : Calls Try.prog 20 #[.int .i64 room] W fun e w' => e = .returned (.pointer none) ∧ w' = W := by
  by_cases h1 : room < 0
  · go_enter Try.func20, Try.ntmps20
    go_wp2_with fail
    go_ret
    exact ⟨rfl, rfl⟩
  · have h2 : 1073741824 < room := h.resolve_left h1
    go_enter Try.func20, Try.ntmps20
    go_wp2_with fail
    go_ret
    exact ⟨rfl, rfl⟩
theorem dkNew_any (room : Nat) (W : World) (h : room ≤ 1073741824) : Calls Try.prog 20 #[.int .i64 (room : Int)] W fun e w' => e = .returned (.pointer (some ⟨W.heap.size + 1, 0, none⟩)) ∧ Ext W w' ∧ DkM W.heap.size w' (W.heap.size + 1) W.heap.size 0 (Dk.fresh room) [] := by
  have h1 : ¬ ((room : Int) < 0) := by omega
  have h2 : ¬ (1073741824 < (room : Int)) := by omega
  have hmk : ∀ w : World, (Instr.makeMap 58 none).run Try.prog w = .ok (.map (some w.heap.size)) (w.alloc (.map #[] 0)) := fun w => run_makeMap_plain w _
  go_enter Try.func20, Try.ntmps20
  go_wp2_with fail
  go_ret
  refine ⟨rfl, ?_, ?_⟩
  · exact (ext_alloc _ _).trans (ext_alloc _ _)
  · refine ⟨rfl, ?_, fun n k hp => (by cases hp), ⟨0, .map [], (World.ownsMap_made W _ _ _).alloc _, MapIs.empty⟩, by simp, by simp, List.Pairwise.nil, by omega, Nat.le_refl _⟩
    have := BlkT.new (W.alloc (.map #[] 0)) #[.int .i64 (room : Int), .map (some W.heap.size), .bool true, .int .i64 0, .int .i64 0, .int .i64 0, .pointer none] 61
    rw [World.size_alloc] at this
    exact this
/-- A field that is told as it is. -/
theorem used_any {z bd bm pl : Nat} {W : World} {d : Dk} {ms : List FilM} (h : DkM z W bd bm pl d ms) : Calls Try.prog 22 #[.pointer (some ⟨bd, 0, none⟩)] W fun e w' => e = .returned (.int .i64 (d.used : Int)) ∧ w' = W := by
  have k := h.str.blk.cell (i := 3) rfl
  go_enter Try.func22, Try.ntmps22
  go_wp2_with fail
  go_ret
  exact ⟨rfl, rfl⟩
theorem ops_any {z bd bm pl : Nat} {W : World} {d : Dk} {ms : List FilM} (h : DkM z W bd bm pl d ms) : Calls Try.prog 23 #[.pointer (some ⟨bd, 0, none⟩)] W fun e w' => e = .returned (.int .i64 (d.ops : Int)) ∧ w' = W := by
  have k := h.str.blk.cell (i := 4) rfl
  go_enter Try.func23, Try.ntmps23
  go_wp2_with fail
  go_ret
  exact ⟨rfl, rfl⟩
theorem fails_any {z bd bm pl : Nat} {W : World} {d : Dk} {ms : List FilM} (h : DkM z W bd bm pl d ms) : Calls Try.prog 34 #[.pointer (some ⟨bd, 0, none⟩)] W fun e w' => e = .returned (.int .i64 (d.fails : Int)) ∧ w' = W := by
  have k := h.str.blk.cell (i := 5) rfl
  go_enter Try.func34, Try.ntmps34
  go_wp2_with fail
  go_ret
  exact ⟨rfl, rfl⟩
end Go.Proofs.Ytkejoiknnigllaa
