/-
  The statement of FrameTorn: whatever comes in, the call returns true, and what came in reads as it did.
-/
import Derived.Test.YtlhnlnmhgkkbaaaFrameTornWalk
import Derived.Test.YtlhnlnmhgkkbaaaBss
import Derived.Test.YtlhnlnmhgkkbaaaOpen
import Derived.JoinedCond
namespace Go.Proofs.Ytlhnlnmhgkkbaaa.frameTorn
open Go.ChangeShapes Go.WideShapes Go.ChangeAt Go.RowKit Mono
open Go.ChangeMaps (open_string shut_string)
set_option linter.unusedVariables false
set_option maxRecDepth 100000 in
set_option maxHeartbeats 2000000 in
theorem lifted (os : Os) (started : os.Started) (H : Type) (enc : TypeId × Value → H) (F : Stop.Interp) :
    ReturnsInHanded {} Try.checked os 6 .any ((Rows.OpenSpec.upto Rows.frameTornSpec).pre6 enc Try.prog Try.f6 Rows.frameTornUptoRow.domain false) (((Rows.OpenSpec.upto Rows.frameTornSpec).at F).post enc Try.prog Try.f6 false true false false) := by
  refine returnsInHanded_of_cond (C := Try.checked) (s := Rows.OpenSpec.upto Rows.frameTornSpec) (k := Rows.uptoSmall) rfl own started (by kernel_rfl) Try.func6
    (OpenSpec.witness (enc := enc) (C := Try.checked) (s := Rows.OpenSpec.upto Rows.frameTornSpec) (k := Rows.uptoSmall) rfl false ⟨#[], #[.slice none 0 0, .int .i64 0], []⟩ 8 (by kernel_rfl) (by kernel_rfl) (by kernel_rfl)
      (x := ([.nil, .lit (.int .i64 0)], [], [])) (by kernel_rfl) rfl (by kernel_rfl)) ?_
  intro W base args ds gs before hval0 hW _ hk _
  have hbulk : Rows.uptoBulkAll (ds ++ gs) ≤ 1048576 := by
    have h := of_decide_eq_true hk
    exact h
  have hval : ∀ (j : Nat) t v, Try.f6.params[j]? = some t → args[j]? = some v → Value.okWide Try.prog W .any base t v := hval0
  have hW' := hW
  obtain ⟨p, q, hA0, hV, rfl, hfz, hnd⟩ := hW
  have hA : DataW.TrodAll enc Try.prog W 0 (fun _ => true) true Try.f6.params.toList args.toList ds p := hA0
  rw [Try.params6] at hA hval
  obtain ⟨v0, vs0, d0, ds0, p0, q0, hargs, rfl, rfl, h0, r0⟩ := trodAll_cons hA
  obtain ⟨v1, vs1, d1, ds1, p1, q1, rfl, rfl, rfl, h1, r1⟩ := trodAll_cons r0
  obtain ⟨rfl, rfl, rfl⟩ := trodAll_nil r1
  obtain rfl : args = #[v0, v1] := by cases args; simp_all
  obtain ⟨rfl, rfl⟩ := trodVars_none hV
  have k0 := h0
  have lt0 : ∀ x ∈ p0, x.block < W.heap.size := by obtain ⟨m, hm⟩ := k0; exact DataW.trod_lt m _ _ _ hm
  obtain ⟨a0, len0, cap0, rfl⟩ := okWide_slice Try.underlying31 (hval 0 31 v0 rfl rfl)
  obtain ⟨l0, b0, s0⟩ : ∃ ls, Bss W (.slice a0 len0 cap0) ls ∧ szsum ls ≤ 100000000 := by
    obtain ⟨fuel, hf⟩ := h0
    rcases Go.Deep.open_int_rows Try.underlying31 Try.underlying22 Try.underlying5 (by kernel_rfl) (by kernel_rfl) hf with ⟨hcs, _⟩ | ⟨x, l, c, Aa, L, C, Z, hcs, _, hl, hm, hx, hc⟩
    · simp [Value.cells] at hcs
      obtain ⟨rfl, rfl, rfl⟩ := hcs
      exact ⟨[], ⟨[], Sl.nil_ W, trivial⟩, by simp [szsum]⟩
    · simp [Value.cells] at hcs
      obtain ⟨rfl, rfl, rfl⟩ := hcs
      obtain ⟨ls, hb, hn, hg⟩ := bss_open hl hm hc
      refine ⟨ls, hb, ?_⟩
      have hd : d0 = .slice ((List.range len0).map fun r => Go.Deep.intRow .u8 (Aa r) (L r) (Z r)) ((List.range (cap0 - len0)).map fun j => Go.Deep.intRow .u8 (Aa (len0 + j)) (L (len0 + j)) (Z (len0 + j))) := congrArg Prod.fst hx
      have h1 := szsum_rows (H := H) (fun r => Go.Deep.intRow .u8 (Aa r) (L r) (Z r)) len0 ls hn (fun r hr => by
        obtain ⟨_, k1, k2, k3, _, k5, _⟩ := hc r (by omega)
        rw [hg r hr]
        exact bulk_row .u8 _ _ _ _ k3 k1 k5)
      have h2 : Rows.uptoBulk d0 ≤ 1048576 := by
        have := hbulk
        simp only [bulk_append, Rows.uptoBulkAll] at this
        omega
      rw [hd] at h2
      simp only [Rows.uptoBulk] at h2
      omega
  have k1 := h1
  have lt1 : ∀ x ∈ p1, x.block < W.heap.size := by obtain ⟨m, hm⟩ := k1; exact DataW.trod_lt m _ _ _ hm
  obtain ⟨x1, rfl, rfl, rfl, w1⟩ := open_int Try.underlying3 (hval 1 3 v1 rfl rfl) h1
  clear hA0 hval0
  refine (frameTorn_walk _ l0 x1 W b0 s0).mono fun e W' ⟨he, bel⟩ => ?_
  subst he
  exact ⟨_, rfl, _, _, _, [], _, [], hW', trodAll_mk1 (shut_bool Try.underlying4 _), (trodAll_cons_mk (Below.trod laidOut (by kernel_rfl) (of_decide_eq_true (by kernel_rfl)) k0 bel lt0) (trodAll_cons_mk (Below.trod laidOut (by kernel_rfl) (of_decide_eq_true (by kernel_rfl)) k1 bel lt1) trodAll_mk0)), rfl, bel.frame _, fun h => by cases h⟩

theorem over : Rows.frameTornUptoRow.holds Try.pinned (Rows.OpenSpec.upto Rows.frameTornSpec) :=
  OpenClaim.holds_of_cond 6 Try.f6 rfl rfl rfl rfl rfl rfl rfl ⟨rfl, rfl, rfl, rfl, rfl⟩ rfl rfl rfl rfl rfl (by kernel_rfl) Try.func6 (by kernel_rfl)
    (of_decide_eq_true (by kernel_rfl)) (by unfold Func.isWrapper; first | (rw [if_pos (by decide +kernel)]; kernel_rfl) | (rw [if_neg (by decide +kernel)]; exact ⟨rfl, rfl⟩))
    (fun os started H enc _ F => lifted os started H enc F)

theorem proved : Rows.FrameTornUptoSaid := over
#print axioms proved
end Go.Proofs.Ytlhnlnmhgkkbaaa.frameTorn
