/-
  Layer 12: whether a change writes a cell.
-/
import Derived.Test.YtocdifjdeifclaaChGood
import Derived.Test.YtocdifjdeifclaaCapPlain
namespace Go.Proofs.Ytocdifjdeifclaa
open Go Go.RowKit Mono Num
set_option linter.unusedVariables false
set_option linter.unusedSimpArgs false
set_option maxRecDepth 100000

def chas (key : List UInt8) (g : Int) (ws : List Wr) : Bool := ws.any fun x => x.key == key && x.group == g
theorem chas_step {key : List UInt8} {g : Int} {ws : List Wr} {k : Nat} {x : Wr} (h : ws[k]? = some x) : chas key g (ws.take (k + 1)) = (chas key g (ws.take k) || (x.key == key && x.group == g)) := by
  unfold chas
  rw [List.take_add_one, h, List.any_append]
  simp
theorem chas_mem {key : List UInt8} {g : Int} {ws : List Wr} {k : Nat} {x : Wr} (h : ws[k]? = some x) (hx : (x.key == key && x.group == g) = true) : chas key g ws = true := by
  unfold chas
  rw [List.any_eq_true]
  exact ⟨x, List.mem_of_getElem? h, hx⟩
/-- '==' of two places. -/
theorem eqPlace (a c : List UInt8) (b d : Int) (w : World) : (Op.equalIn 10000 82 (.agg #[.string ⟨a.toArray⟩, .int .i64 b]) (.agg #[.string ⟨c.toArray⟩, .int .i64 d])).run Try.prog w = .ok ((a == c) && (b == d)) w := by
  rw [show (10000 : Nat) = 9999 + 1 from rfl, run_equalIn_agg _ 9999 82 _ _ Try.underlying82 (by kernel_rfl)]
  simp [Op.eqFields, go_sem]
  by_cases h0 : a = c
  · by_cases h1 : b = d <;> simp [h0, h1]
  · simp [h0]

set_option maxHeartbeats 4000000 in
theorem chHas_any (s1 s2 s3 s4 s5 s6 : Int) (vw : Value) (ws : List Wr) (key : List UInt8) (g : Int) (w : World) (hw : Ws w vw ws) :
    Calls Try.prog 16 #[chV ⟨s1, s2, s3, s4, s5, s6, ws⟩ vw, strV key, .int .i64 g] w fun e w' => e = .returned (.bool (chas key g ws)) ∧ Ext w w' := by
  obtain ⟨A, c, rfl, h1, h2, h3, h4⟩ := hw.at_
  have H4 := Lib.hid h4
  clear hw h4
  unfold chV strV
  dsimp only
  go_enter Try.func16, Try.ntmps16
  go_upto_region 1 with (fail)
  have ba := Blk.new w #[.int .i64 s1, .int .i64 s2, .int .i64 s3, .int .i64 s4, .int .i64 s5, .int .i64 s6, .slice A ws.length c] 29
  have hx := ext_alloc w (.cells #[.int .i64 s1, .int .i64 s2, .int .i64 s3, .int .i64 s4, .int .i64 s5, .int .i64 s6, .slice A ws.length c] 29)
  obtain ⟨n, hnn⟩ : ∃ n, n = w.heap.size := ⟨_, rfl⟩
  rw [← hnn] at ba ⊢
  clear hnn
  generalize w.alloc (.cells #[.int .i64 s1, .int .i64 s2, .int .i64 s3, .int .i64 s4, .int .i64 s5, .int .i64 s6, .slice A ws.length c] 29) = W at *
  have k6 := ba.cell (i := 6) rfl
  go_wp2_with fail
  clear k6 ba
  go_loopw [12] (fun i wr => ∃ k : Nat, k ≤ ws.length ∧ i = .int .i64 k ∧ Ext w wr ∧ Hid (chas key g (ws.take k) = false)) (fun i _ => ws.length - (intOf i).toNat)
  case atStart => exact ⟨0, Nat.zero_le _, rfl, hx, Lib.hid rfl⟩
  case round =>
    obtain ⟨k, hk, rfl, h0, hf⟩ := hrel
    clear hx
    by_cases hlt : k < ws.length
    · obtain ⟨b, off, rfl, hb, hc⟩ := H4.out (by omega)
      obtain ⟨ky, gi, d, z, hget, p0, p1, p2, p3, -, -, -⟩ := hc k hlt
      have HGET := Lib.hid hget
      replace p0 := (h0.cell (p := ⟨b, off + k * 4, none⟩) hb).trans p0
      replace p1 := (h0.cell (p := ⟨b, off + k * 4 + 1, none⟩) hb).trans p1
      replace p2 := (h0.cell (p := ⟨b, off + k * 4 + 2, none⟩) hb).trans p2
      replace p3 := (h0.cell (p := ⟨b, off + k * 4 + 3, none⟩) hb).trans p3
      unfold strV at p0 p3
      clear hget hc
      go_upto_region 4 with (fail)
      clear p0 p1 p2 p3
      have bt := Blk.new wr #[.string ⟨ky.toArray⟩, .int .i64 gi, .bool d, .string ⟨z.toArray⟩] 31
      replace h0 := h0.trans (ext_alloc wr (.cells #[.string ⟨ky.toArray⟩, .int .i64 gi, .bool d, .string ⟨z.toArray⟩] 31))
      generalize wr.heap.size = n8 at *
      generalize wr.alloc (.cells #[.string ⟨ky.toArray⟩, .int .i64 gi, .bool d, .string ⟨z.toArray⟩] 31) = W1 at *
      have k0 := bt.cell (i := 0) rfl
      have k1 := bt.cell (i := 1) rfl
      have k2 := bt.cell (i := 2) rfl
      have k3 := bt.cell (i := 3) rfl
      have hof := of_any ⟨ky, gi, d, z⟩ W1
      have hee := eqPlace ky key gi g
      have HQ := Lib.hid (fun (h : ((ky == key) && (gi == g)) = true) => chas_mem HGET.out h)
      have HF : Hid (((ky == key) && (gi == g)) = false → chas key g (ws.take (k + 1)) = false) := Lib.hid fun h => by rw [chas_step HGET.out, hf.out]; simpa using h
      generalize ((ky == key) && (gi == g)) = q at *
      unfold strV at hof
      go_wp2_with fail
      refine hof.mono ?_
      rintro e W2 ⟨rfl, x2⟩
      clear k0 k1 k2 k3 hof
      replace h0 := h0.trans x2
      dsimp only
      cases q
      · have HF1 := Lib.hid (HF.out rfl)
        clear HF HQ
        go_wp2_with fail
        go_roundw
        case rel => exact ⟨k + 1, by omega, by go_num, h0, HF1⟩
        case measure => simp [intOf]; omega
      · have HQ1 := Lib.hid (HQ.out rfl)
        clear HF HQ
        go_wp2_with fail
        go_ret
        exact ⟨by rw [HQ1.out]; rfl, h0⟩
    · have HF : Hid (chas key g ws = false) := Lib.hid (by rw [← List.take_of_length_le (show ws.length ≤ k by omega)]; exact hf.out)
      go_wp2_with fail
      go_ret
      exact ⟨by rw [HF.out]; rfl, h0⟩
end Go.Proofs.Ytocdifjdeifclaa
