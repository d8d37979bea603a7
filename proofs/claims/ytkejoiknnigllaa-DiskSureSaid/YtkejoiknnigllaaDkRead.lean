/-
  Layer 15: a file is read.
-/
import Derived.Test.YtkejoiknnigllaaDkFput
namespace Go.Proofs.Ytkejoiknnigllaa
open Go Go.RowKit Mono
open Go.Maps (Keyed has size)
set_option linter.unusedVariables false
set_option linter.unusedSimpArgs false
set_option maxRecDepth 100000

theorem findF_fs {u : Int} {z bd bm pl : Nat} {W : World} {d : Dk} {ms : List FilM} (h : DkU u z W bd bm pl d ms) (name : List UInt8) : findF name d.fs = (findM name ms).map FilM.fil := by
  rw [← h.fs, findM_fil]
theorem findM_mem {name : List UInt8} {ms : List FilM} {m : FilM} (h : findM name ms = some m) : m ∈ ms ∧ m.name = name := by
  refine ⟨List.mem_of_find?_eq_some h, ?_⟩
  have := List.find?_some h
  simpa using this
theorem read_any {z bd bm pl : Nat} {W : World} {d : Dk} {ms : List FilM} (h : DkM z W bd bm pl d ms) (hok : d.Ok) (name : List UInt8) (hl : name.length ≤ maxLen) :
    Calls Try.prog 19 #[.pointer (some ⟨bd, 0, none⟩), strV name] W fun e w' => ∃ v, e = .returned (.tuple #[v, .int .i64 (((dRead d name).2 : Nat) : Int)]) ∧ OwB w' W.heap.size v (dRead d name).1 ∧ Ext W w' := by
  have HF := Lib.hid (find_any h name hl)
  have hfs := findF_fs h name
  unfold findV findN lookV at HF
  unfold dRead
  rw [hfs]
  unfold strV at HF ⊢
  cases hon : d.on
  · rw [hon] at HF
    clear hfs
    go_enter Try.func19, Try.ntmps19
    go_wp2_with fail
    refine HF.out.mono ?_
    rintro e w1 ⟨rfl, rfl⟩
    go_wp2_with fail
    go_ret2
    exact ⟨_, rfl, OwB.nil_ _ _, Ext.refl _⟩
  · rw [hon] at HF
    cases hf : findM name ms with
    | none =>
      rw [hf] at HF
      clear hfs
      go_enter Try.func19, Try.ntmps19
      go_wp2_with fail
      refine HF.out.mono ?_
      rintro e w1 ⟨rfl, rfl⟩
      go_wp2_with fail
      go_ret2
      exact ⟨_, rfl, OwB.nil_ _ _, Ext.refl _⟩
    | some m =>
      rw [hf] at HF
      obtain ⟨hm, -⟩ := findM_mem hf
      have k0 := ((h.files m hm).1.ext (ext_alloc W (.cells #[] 5))).blk.cell (i := 0) rfl
      have HB := Lib.hid (h.bytes m hm).bs
      have hlen : m.b.length ≤ 1048576 := hok.len m.fil (by rw [← h.fs]; exact List.mem_map.2 ⟨m, hm, rfl⟩)
      clear hfs hm
      go_enter Try.func19, Try.ntmps19
      go_wp2_with fail
      refine HF.out.mono ?_
      rintro e w1 ⟨rfl, rfl⟩
      go_wp2_with (at_builtin; refine wpList_append_bs _ rfl (.tmp 17) (.tmp 21) rfl (OwB.empty_ w1 (Nat.le_refl _)) (HB.out.ext (ext_alloc _ _)) rfl rfl (by simp; omega) (by simp) ?_; intro v1 w2 hown1 hg1 hat1; have hb1 : Ext w1 w2 := Below.growB (ext_alloc w1 _) (OwB.empty_ w1 (Nat.le_refl _)) hg1 (Nat.le_refl _) (by simp))
      go_ret2
      exact ⟨_, rfl, by simpa [FilM.fil] using hown1, hb1⟩
end Go.Proofs.Ytkejoiknnigllaa
