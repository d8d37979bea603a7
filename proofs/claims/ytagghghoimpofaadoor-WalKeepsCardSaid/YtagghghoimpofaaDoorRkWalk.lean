/-
  Layer 15: the document's disk: a file's place, the counts, a new disk, a plan, power, a file's bytes.
-/
import Derived.Test.YtagghghoimpofaaDoorRkMem
namespace Go.Proofs.YtagghghoimpofaaDoor
open Go Go.RowKit Mono
set_option linter.unusedVariables false
set_option linter.unusedSimpArgs false
set_option maxRecDepth 100000
set_option maxHeartbeats 1000000

theorem findI_step {name : List UInt8} {fs : List Fil} {i : Nat} {f : Fil} (hpre : ∀ j, j < i → ∀ x, fs[j]? = some x → x.name ≠ name) (hf : fs[i]? = some f) (he : f.name = name) : findZ name fs = (i : Int) := by
  have : findI name fs = some i := by
    unfold findI
    rw [List.findIdx?_eq_some_iff_getElem]
    have hi := (List.getElem?_eq_some_iff.1 hf).1
    have hfe := (List.getElem?_eq_some_iff.1 hf).2
    refine ⟨hi, by rw [hfe]; simpa using he, fun j hj => ?_⟩
    have := hpre j hj _ (List.getElem?_eq_getElem (by omega))
    simpa using this
  unfold findZ
  rw [this]
theorem findI_end {name : List UInt8} {fs : List Fil} (hpre : ∀ j, j < fs.length → ∀ x, fs[j]? = some x → x.name ≠ name) : findZ name fs = -1 := by
  have : findI name fs = none := by
    unfold findI
    rw [List.findIdx?_eq_none_iff]
    intro x hx
    obtain ⟨j, hj⟩ := List.getElem?_of_mem hx
    have := hpre j (List.getElem?_eq_some_iff.1 hj).1 x hj
    simpa using this
  unfold findZ
  rw [this]
end Go.Proofs.YtagghghoimpofaaDoor
