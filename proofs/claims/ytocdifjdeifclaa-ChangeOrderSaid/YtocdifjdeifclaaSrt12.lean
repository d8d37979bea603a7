/-
  Layer 12: what a call of Canon's 'less' does.
-/
import Derived.Test.YtocdifjdeifclaaSrt11
namespace Go.Proofs.Ytocdifjdeifclaa
open Go Go.RowKit Mono Go.Sort
set_option linter.unusedVariables false
set_option linter.unusedSimpArgs false
set_option maxRecDepth 100000
set_option maxHeartbeats 4000000

theorem canonLess_any {blk off n c ob : Nat} (dk : Array Wr) (W : World) (hb : blk < W.heap.size) (hr : HR blk off W dk) (hs : dk.size = n) (ho : Blk W ob [.slice (some ⟨blk, off, none⟩) n c]) (i j : Nat) (hi : i < n) (hj : j < n) :
    Calls Try.prog 63 #[.int .i64 (i : Int), .int .i64 (j : Int), .pointer (some ⟨ob, 0, none⟩)] W fun e w' => e = .returned (.bool (wahead dk[i]! dk[j]!)) ∧ Ext W w' := by
  have HB := Lib.hid hb
  have BO := Lib.hid ho
  have cl : ∀ x, x < n → ∀ u v, (wrE dk[x]!)[u]? = some v → W.cell? ⟨blk, off + x * 4 + u, none⟩ = some v := fun x hx u v h => by
    have hu : u < 4 := by rw [← wrE_len dk[x]!]; exact (List.getElem?_eq_some_iff.mp h).1
    rw [(hr.cell (by rw [hs]; exact hx) hu).1]; simp [h]
  have Hi := Lib.hid (show W.cell? ⟨blk, off + i * 4, none⟩ = some (strV (dk[i]!).key) ∧ W.cell? ⟨blk, off + i * 4 + 1, none⟩ = some (.int .i64 (dk[i]!).group) ∧ W.cell? ⟨blk, off + i * 4 + 2, none⟩ = some (.bool (dk[i]!).gone) ∧ W.cell? ⟨blk, off + i * 4 + 3, none⟩ = some (strV (dk[i]!).value) from
    ⟨cl i hi 0 _ rfl, cl i hi 1 _ rfl, cl i hi 2 _ rfl, cl i hi 3 _ rfl⟩)
  have Hj := Lib.hid (show W.cell? ⟨blk, off + j * 4, none⟩ = some (strV (dk[j]!).key) ∧ W.cell? ⟨blk, off + j * 4 + 1, none⟩ = some (.int .i64 (dk[j]!).group) ∧ W.cell? ⟨blk, off + j * 4 + 2, none⟩ = some (.bool (dk[j]!).gone) ∧ W.cell? ⟨blk, off + j * 4 + 3, none⟩ = some (strV (dk[j]!).value) from
    ⟨cl j hj 0 _ rfl, cl j hj 1 _ rfl, cl j hj 2 _ rfl, cl j hj 3 _ rfl⟩)
  generalize dk[i]! = x at *
  generalize dk[j]! = y at *
  obtain ⟨k1, g1, d1, z1⟩ := x
  obtain ⟨k2, g2, d2, z2⟩ := y
  dsimp only at Hi Hj
  obtain ⟨aa, Haa⟩ : ∃ q : Bool, q = wahead ⟨k1, g1, d1, z1⟩ ⟨k2, g2, d2, z2⟩ := ⟨_, rfl⟩
  have HAH : Hid (∀ w, Calls Try.prog 37 #[.agg #[strV k1, .int .i64 g1], .agg #[strV k2, .int .i64 g2]] w fun e w' => e = .returned (.bool aa) ∧ Ext w w') := Lib.hid (by rw [Haa]; exact fun w => ahead_any k1 g1 k2 g2 w)
  rw [← Haa]
  clear cl hr hs ho hb Haa
  go_enter Try.func63, Try.ntmps63
  go_upto_region 1 with (fail)
  refine wp_region_mono (by kernel_rfl) (by kernel_rfl) ?_
  refine tele_val rfl (.slice (some ⟨blk, off, none⟩) n c) (fun _ _ _ => rfl) ?_ ?_
  · rintro ρ w' he ⟨h2, -⟩
    have e2 : ρ 2 = (.pointer (some ⟨ob, 0, none⟩)) := h2
    have c0 := (BO.out.ext he).cell (i := 0) rfl
    simp [execOp, evR, e2, c0, go_sem]
  refine tele_move rfl (.inl rfl) rfl (isV (.int .i64 (i : Int))) (fun ρ w' h => h) ?_
  refine tele_val rfl (.pointer (some ⟨blk, off + i * 4, none⟩)) (fun _ _ _ => rfl) ?_ ?_
  · rintro ρ w' he ⟨h6, h7, -⟩
    have e6 : ρ 6 = (.slice (some ⟨blk, off, none⟩) n c) := h6
    have e7 : ρ 7 = (.int .i64 (i : Int)) := h7
    exact index_at (w := w') 4 rfl Try.underlying27 e6 e7 hi (by kernel_rfl)
  refine tele_val rfl (.agg #[strV k1, .int .i64 g1, .bool d1, strV z1]) (fun _ _ _ => rfl) ?_ ?_
  · rintro ρ w' he ⟨h8, -⟩
    have e8 : ρ 8 = (.pointer (some ⟨blk, off + i * 4, none⟩)) := h8
    have c0 := (he.cell (p := ⟨blk, off + i * 4, none⟩) HB.out).trans Hi.out.1
    have c1 := (he.cell (p := ⟨blk, off + i * 4 + 1, none⟩) HB.out).trans Hi.out.2.1
    have c2 := (he.cell (p := ⟨blk, off + i * 4 + 2, none⟩) HB.out).trans Hi.out.2.2.1
    have c3 := (he.cell (p := ⟨blk, off + i * 4 + 3, none⟩) HB.out).trans Hi.out.2.2.2
    simp [execOp, evR, e8, c0, c1, c2, c3, go_sem]
  refine tele_call rfl rfl Try.func36 (by kernel_rfl) (isV (.agg #[strV k1, .int .i64 g1])) (fun _ _ _ => rfl) ?_ ?_
  · rintro ρ w' he ⟨h9, -⟩
    have e9 : ρ 9 = (.agg #[strV k1, .int .i64 g1, .bool d1, strV z1]) := h9
    simp only [evR, List.map_toArray, List.map_cons, List.map_nil, e9]
    refine (of_any ⟨k1, g1, d1, z1⟩ _).mono ?_
    rintro e w'' ⟨rfl, hx⟩
    exact ⟨_, rfl, hx, rfl⟩
  refine tele_val rfl (.slice (some ⟨blk, off, none⟩) n c) (fun _ _ _ => rfl) ?_ ?_
  · rintro ρ w' he ⟨h2, -⟩
    have e2 : ρ 2 = (.pointer (some ⟨ob, 0, none⟩)) := h2
    have c0 := (BO.out.ext he).cell (i := 0) rfl
    simp [execOp, evR, e2, c0, go_sem]
  refine tele_move rfl (.inl rfl) rfl (isV (.int .i64 (j : Int))) (fun ρ w' h => h) ?_
  refine tele_val rfl (.pointer (some ⟨blk, off + j * 4, none⟩)) (fun _ _ _ => rfl) ?_ ?_
  · rintro ρ w' he ⟨h11, h12, -⟩
    have e11 : ρ 11 = (.slice (some ⟨blk, off, none⟩) n c) := h11
    have e12 : ρ 12 = (.int .i64 (j : Int)) := h12
    exact index_at (w := w') 4 rfl Try.underlying27 e11 e12 hj (by kernel_rfl)
  refine tele_val rfl (.agg #[strV k2, .int .i64 g2, .bool d2, strV z2]) (fun _ _ _ => rfl) ?_ ?_
  · rintro ρ w' he ⟨h13, -⟩
    have e13 : ρ 13 = (.pointer (some ⟨blk, off + j * 4, none⟩)) := h13
    have c0 := (he.cell (p := ⟨blk, off + j * 4, none⟩) HB.out).trans Hj.out.1
    have c1 := (he.cell (p := ⟨blk, off + j * 4 + 1, none⟩) HB.out).trans Hj.out.2.1
    have c2 := (he.cell (p := ⟨blk, off + j * 4 + 2, none⟩) HB.out).trans Hj.out.2.2.1
    have c3 := (he.cell (p := ⟨blk, off + j * 4 + 3, none⟩) HB.out).trans Hj.out.2.2.2
    simp [execOp, evR, e13, c0, c1, c2, c3, go_sem]
  refine tele_call rfl rfl Try.func36 (by kernel_rfl) (isV (.agg #[strV k2, .int .i64 g2])) (fun _ _ _ => rfl) ?_ ?_
  · rintro ρ w' he ⟨h14, -⟩
    have e14 : ρ 14 = (.agg #[strV k2, .int .i64 g2, .bool d2, strV z2]) := h14
    simp only [evR, List.map_toArray, List.map_cons, List.map_nil, e14]
    refine (of_any ⟨k2, g2, d2, z2⟩ _).mono ?_
    rintro e w'' ⟨rfl, hx⟩
    exact ⟨_, rfl, hx, rfl⟩
  refine tele_call rfl rfl Try.func37 (by kernel_rfl) (isV (.bool aa)) (fun _ _ _ => rfl) ?_ ?_
  · rintro ρ w' he ⟨h10, h15, -⟩
    have e10 : ρ 10 = (.agg #[strV k1, .int .i64 g1]) := h10
    have e15 : ρ 15 = (.agg #[strV k2, .int .i64 g2]) := h15
    simp only [evR, List.map_toArray, List.map_cons, List.map_nil, e10, e15]
    refine (HAH.out _).mono ?_
    rintro e w'' ⟨rfl, hx⟩
    exact ⟨_, rfl, hx, rfl⟩
  refine tele_move rfl (.inr rfl) rfl (isV (.bool aa)) (fun ρ w' h => h) ?_
  refine tele_nil ?_
  rintro ρ w' hext ⟨f5, f16, f15, f14, f13, f12, f11, f10, f9, f8, f7, f6, -⟩
  replace f6 : ρ 6 = (.slice (some ⟨blk, off, none⟩) n c) := f6
  replace f7 : ρ 7 = (.int .i64 (i : Int)) := f7
  replace f8 : ρ 8 = (.pointer (some ⟨blk, off + i * 4, none⟩)) := f8
  replace f9 : ρ 9 = (.agg #[strV k1, .int .i64 g1, .bool d1, strV z1]) := f9
  replace f10 : ρ 10 = (.agg #[strV k1, .int .i64 g1]) := f10
  replace f11 : ρ 11 = (.slice (some ⟨blk, off, none⟩) n c) := f11
  replace f12 : ρ 12 = (.int .i64 (j : Int)) := f12
  replace f13 : ρ 13 = (.pointer (some ⟨blk, off + j * 4, none⟩)) := f13
  replace f14 : ρ 14 = (.agg #[strV k2, .int .i64 g2, .bool d2, strV z2]) := f14
  replace f15 : ρ 15 = (.agg #[strV k2, .int .i64 g2]) := f15
  replace f16 : ρ 16 = (.bool aa) := f16
  replace f5 : ρ 5 = (.bool aa) := f5
  simp only [puts, Act.put, List.setIfInBounds_toArray, List.set_cons_zero, List.set_cons_succ]
  rw [f5]
  go_wp2_with fail
  go_ret
  exact ⟨rfl, hext⟩
end Go.Proofs.Ytocdifjdeifclaa
