/-
  Layer 15: a field is written; power; a plan is laid.
-/
import Derived.Test.YtkejoiknnigllaaDkSmall
namespace Go.Proofs.Ytkejoiknnigllaa
open Go Go.RowKit Mono
open Go.Maps (Keyed has size)
set_option linter.unusedVariables false
set_option linter.unusedSimpArgs false
set_option maxRecDepth 100000

theorem map_ne {W : World} {b bm n : Nat} {T : TypeId} {L : List Value} {D : DataW Unit} (h : BlkT W b T L) (hm : W.ownsMap Try.prog 9 ptrR bm n D) : b ≠ bm := by
  rintro rfl
  obtain ⟨es, clock, hb, _⟩ := hm
  unfold BlkT at h
  rw [h] at hb
  cases hb
/-- A field of the disk is written. -/
theorem DkU.put {u u' : Int} {z bd bm pl pl' : Nat} {W : World} {d d' : Dk} {ms : List FilM} (h : DkU u z W bd bm pl d ms) (i : Nat) (v : Value) (hc : (dstrU u d bm pl).set i v = dstrU u' d' bm pl') (hfs : d'.fs = d.fs)
    (hp : ∀ n k, d'.plan = some (n, k) → BlkT W pl' 81 [.int .i64 (n : Int), .int .i64 k] ∧ z ≤ pl') : DkU u' z (W.setCell ⟨bd, i, none⟩ v) bd bm pl' d' ms := by
  have hset := h.str.set i v
  rw [hc] at hset
  obtain ⟨n, D, ho, hm⟩ := h.map
  refine ⟨h.fs.trans hfs.symm, hset, fun n k hpl => ⟨(hp n k hpl).1.other v ((hp n k hpl).1.ne h.str (by decide)), (hp n k hpl).2⟩, ⟨n, D, ho.setCell (map_ne h.str ho).symm v, hm⟩, fun m hm => ⟨(h.files m hm).1.other v ((h.files m hm).1.ne h.str (by decide)), (h.files m hm).2⟩, fun m hm => ?_, h.blks, h.zd, h.zm⟩
  exact (h.bytes m hm).kb (Kb.set (fun k => k = bd) W bd i v rfl) (fun j hj e => (h.bytes m hm).ne h.str (by decide) j hj e)
theorem on_any {z bd bm pl : Nat} {W : World} {d : Dk} {ms : List FilM} (h : DkM z W bd bm pl d ms) : Calls Try.prog 24 #[.pointer (some ⟨bd, 0, none⟩)] W fun e w' => e = .returned (.bool d.on) ∧ w' = W := by
  have HF := Lib.hid (fault_any h)
  unfold faultN at HF
  cases hon : d.on
  all_goals
    rw [hon] at HF
    go_enter Try.func24, Try.ntmps24
    go_wp2_with fail
    refine HF.out.mono ?_
    rintro e w1 ⟨rfl, rfl⟩
    go_wp2_with fail
    go_ret
    exact ⟨rfl, rfl⟩
theorem power_any {z bd bm pl : Nat} {W : World} {d : Dk} {ms : List FilM} (h : DkM z W bd bm pl d ms) : Calls Try.prog 13 #[.pointer (some ⟨bd, 0, none⟩)] W fun e w' => e = .returned (.int .i64 0) ∧ DkM z w' bd bm pl (dPower d) ms ∧ Kb (fun k => k = bd) W w' := by
  have HF := Lib.hid (fault_any h)
  have HP := Lib.hid (h.put (u' := (d.used : Int)) (d' := dPower d) (pl' := pl) 2 (.bool true) rfl rfl h.plan)
  have HK := Lib.hid (Kb.set (fun k => k = bd) W bd 2 (.bool true) rfl)
  have k2 := h.str.blk.cell (i := 2) rfl
  have t2 := h.str.blk.thaw 2
  unfold faultN at HF
  cases hon : d.on
  all_goals
    rw [hon] at HF
    go_enter Try.func13, Try.ntmps13
    go_wp2_with fail
    refine HF.out.mono ?_
    rintro e w1 ⟨rfl, rfl⟩
    go_wp2_with fail
    go_ret
    exact ⟨rfl, HP.out, HK.out⟩
end Go.Proofs.Ytkejoiknnigllaa
