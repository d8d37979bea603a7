/-
  Layer 12: the law's light: a true answer bounds the writes.
-/
import Derived.Test.YtocdifjdeifclaaChLaw0
namespace Go.Proofs.Ytocdifjdeifclaa
open Go Go.RowKit Mono Num
set_option linter.unusedVariables false
set_option linter.unusedSimpArgs false
set_option maxRecDepth 100000

/-- A sum that is asked about up to 5000 alone. -/
def isUp5 (lo : Int) : MRel := ⟨fun v _ => ∃ z : Int, v = .int .i64 z ∧ 0 ≤ z ∧ z ≤ 5001 ∧ (z ≤ 5000 → lo ≤ z), fun _ _ _ h _ => h⟩
def LtB5 (n : Nat) (e : Ending) : Prop := ∃ q : Bool, e = .returned (.bool q) ∧ (q = true → n ≤ 500)
set_option maxHeartbeats 1000000 in
theorem add_up5 (a b lo : Int) (w : World) (ha : 0 ≤ a) (ha2 : a ≤ 5001) (hb : 0 ≤ b) (hb2 : b ≤ 9223372036854775807) (hlo : a ≤ 5000 → lo ≤ a) : Calls Try.prog 27 #[.int .i64 a, .int .i64 b, .int .i64 5000] w fun e w' => (∃ z : Int, e = .returned (.int .i64 z) ∧ 0 ≤ z ∧ z ≤ 5001 ∧ (z ≤ 5000 → lo + b ≤ z)) ∧ w = w' := by
  go_enter Try.func27, Try.ntmps27
  by_cases h1 : 5000 < a
  · go_wp2_with fail
    go_ret
    exact ⟨⟨_, rfl, by omega, by omega, by omega⟩, rfl⟩
  by_cases h2 : 5000 < b
  · go_wp2_with fail
    go_ret
    exact ⟨⟨_, rfl, by omega, by omega, by omega⟩, rfl⟩
  by_cases h3 : 5000 - b < a
  · go_wp2_with fail
    go_ret
    exact ⟨⟨_, rfl, by omega, by omega, by omega⟩, rfl⟩
  · go_wp2_with fail
    go_ret
    exact ⟨⟨_, rfl, by omega, by omega, by omega⟩, rfl⟩

set_option maxHeartbeats 2000000 in
theorem lightC_any (vg : Value) (gs : List Grp) (vw : Value) (ws : List Wr) (w : World) (hg : Gs w vg gs) (hw : Ws w vw ws) :
    Calls Try.prog 9 #[vg, vw] w fun e w' => LtB5 ws.length e ∧ Ext w w' := by
  obtain ⟨A0, c0, rfl, hgc, hgm, _⟩ := hg.at_
  have hgl : (gs.length : Int) ≤ 9223372036854775807 := by omega
  obtain ⟨A, c, rfl, h1, h2, h3, h4⟩ := hw.at_
  clear hg
  go_enter Try.func9, Try.ntmps9
  go_wp2_with fail
  refine (add_up5 0 gs.length 0 _ (by omega) (by omega) (by omega) (by omega) (fun _ => by omega)).mono ?_
  rintro e w1 ⟨⟨z, rfl, z1, z2, z3⟩, rfl⟩
  go_wp2_with fail
  go_loopw [5, 6] (fun n i wr => ∃ (k : Nat) (z : Int), k ≤ ws.length ∧ i = .int .i64 k ∧ n = .int .i64 z ∧ 0 ≤ z ∧ z ≤ 5001 ∧ (z ≤ 5000 → 10 * (k : Int) ≤ z) ∧ Ext w wr) (fun _ i _ => ws.length - (intOf i).toNat)
  case atStart => exact ⟨0, z, Nat.zero_le _, rfl, rfl, z1, z2, (fun _ => by omega), Ext.refl _⟩
  case round =>
    obtain ⟨i, n, hi, rfl, rfl, hn0, hn1, hnl0, hx⟩ := hrel
    have HNL := Lib.hid hnl0
    clear hnl0
    by_cases hlt : i < ws.length
    · obtain ⟨b, off, rfl, hb, hc⟩ := h4 (by omega)
      obtain ⟨k, g, q, y, hget, xa1, xa2, xa3, xa4, hk, _, hy⟩ := hc i hlt
      unfold maxLen at hk hy
      have HK := Lib.hid (And.intro hk hy)
      have HA := Lib.hid (And.intro xa1 (And.intro xa2 (And.intro xa3 xa4)))
      have hia : (i : Int) < ws.length := by omega
      clear hc h4 hget xa1 xa2 xa3 xa4
      by_cases hn : n ≤ 5000
      · go_wp2_with fail
        refine wp_region_mono (by kernel_rfl) (by kernel_rfl) ?_
        refine tele_move rfl (.inl rfl) rfl (isV (.int .i64 n)) (fun ρ w' h => h) ?_
        refine tele_call rfl rfl Try.func27 (by kernel_rfl) (isUp5 (n + 10)) (fun _ _ _ => rfl) ?_ ?_
        · rintro ρ w' he ⟨h20, -⟩
          have e20 : ρ 20 = .int .i64 n := h20
          simp only [evR, List.map_toArray, List.map_cons, List.map_nil, e20]
          refine (add_up5 n 10 n _ hn0 hn1 (by omega) (by omega) (fun _ => Int.le_refl _)).mono ?_
          rintro e w'' ⟨⟨z, rfl, y1, y2, y3⟩, rfl⟩
          exact ⟨_, rfl, Ext.refl _, z, rfl, y1, y2, fun h => by have := y3 h; omega⟩
        refine tele_move rfl (.inl rfl) rfl (isV (.slice (some ⟨b, off, none⟩) ws.length c)) (fun ρ w' h => h) ?_
        refine tele_move rfl (.inl rfl) rfl (isV (.int .i64 (i : Int))) (fun ρ w' h => h) ?_
        refine tele_val rfl (.pointer (some ⟨b, off + i * 4, none⟩)) (fun _ _ _ => rfl) ?_ ?_
        · rintro ρ w' he ⟨h22, h23, -⟩
          have e22 : ρ 22 = .slice (some ⟨b, off, none⟩) ws.length c := h22
          have e23 : ρ 23 = .int .i64 (i : Int) := h23
          exact index_at 4 rfl Try.underlying27 e22 e23 (by omega) (by kernel_rfl)
        refine tele_val rfl (.pointer (some ⟨b, off + i * 4, none⟩)) (fun _ _ _ => rfl) ?_ ?_
        · rintro ρ w' he ⟨h24, -⟩
          have e24 : ρ 24 = .pointer (some ⟨b, off + i * 4, none⟩) := h24
          simp [execOp, evR, e24, go_sem]
        refine tele_val rfl (strV k) (fun _ _ _ => rfl) ?_ ?_
        · rintro ρ w' he ⟨h25, -⟩
          have e25 : ρ 25 = .pointer (some ⟨b, off + i * 4, none⟩) := h25
          have c0 := ((hx.trans he).cell (p := ⟨b, off + i * 4, none⟩) hb).trans HA.out.1
          simp [execOp, evR, e25, c0, go_sem]
        refine tele_val rfl (.int .i64 ((k.length : Nat) : Int)) (fun _ _ _ => rfl) ?_ ?_
        · rintro ρ w' he ⟨h26, -⟩
          have e26 : ρ 26 = strV k := h26
          have hsz := strV_size k
          unfold strV at e26
          simp [execOp, evR, e26, go_sem]
        refine tele_call rfl rfl Try.func27 (by kernel_rfl) (isUp5 (n + 10)) (fun _ _ _ => rfl) ?_ ?_
        · rintro ρ w' he ⟨h21, h27, -⟩
          have e21 : (isUp5 (n + 10)).rel (ρ 21) w' := h21
          have e27 : ρ 27 = .int .i64 ((k.length : Nat) : Int) := h27
          simp only [evR, List.map_toArray, List.map_cons, List.map_nil, e27]
          obtain ⟨z0, e21, q1, q2, q3⟩ := e21
          rw [e21]
          refine (add_up5 z0 _ (n + 10) _ q1 q2 (by omega) (by have := HK.out; omega) q3).mono ?_
          rintro e w'' ⟨⟨z, rfl, y1, y2, y3⟩, rfl⟩
          exact ⟨_, rfl, Ext.refl _, z, rfl, y1, y2, fun h => by have := y3 h; omega⟩
        refine tele_move rfl (.inl rfl) rfl (isV (.slice (some ⟨b, off, none⟩) ws.length c)) (fun ρ w' h => h) ?_
        refine tele_move rfl (.inl rfl) rfl (isV (.int .i64 (i : Int))) (fun ρ w' h => h) ?_
        refine tele_val rfl (.pointer (some ⟨b, off + i * 4, none⟩)) (fun _ _ _ => rfl) ?_ ?_
        · rintro ρ w' he ⟨h29, h30, -⟩
          have e29 : ρ 29 = .slice (some ⟨b, off, none⟩) ws.length c := h29
          have e30 : ρ 30 = .int .i64 (i : Int) := h30
          exact index_at 4 rfl Try.underlying27 e29 e30 (by omega) (by kernel_rfl)
        refine tele_val rfl (.pointer (some ⟨b, off + i * 4 + 3, none⟩)) (fun _ _ _ => rfl) ?_ ?_
        · rintro ρ w' he ⟨h31, -⟩
          have e31 : ρ 31 = .pointer (some ⟨b, off + i * 4, none⟩) := h31
          simp [execOp, evR, e31, go_sem]
        refine tele_val rfl (strV y) (fun _ _ _ => rfl) ?_ ?_
        · rintro ρ w' he ⟨h32, -⟩
          have e32 : ρ 32 = .pointer (some ⟨b, off + i * 4 + 3, none⟩) := h32
          have c0 := ((hx.trans he).cell (p := ⟨b, off + i * 4 + 3, none⟩) hb).trans HA.out.2.2.2
          simp [execOp, evR, e32, c0, go_sem]
        refine tele_val rfl (.int .i64 ((y.length : Nat) : Int)) (fun _ _ _ => rfl) ?_ ?_
        · rintro ρ w' he ⟨h33, -⟩
          have e33 : ρ 33 = strV y := h33
          have hsz := strV_size y
          unfold strV at e33
          simp [execOp, evR, e33, go_sem]
        refine tele_call rfl rfl Try.func27 (by kernel_rfl) (isUp5 (n + 10)) (fun _ _ _ => rfl) ?_ ?_
        · rintro ρ w' he ⟨h28, h34, -⟩
          have e28 : (isUp5 (n + 10)).rel (ρ 28) w' := h28
          have e34 : ρ 34 = .int .i64 ((y.length : Nat) : Int) := h34
          simp only [evR, List.map_toArray, List.map_cons, List.map_nil, e34]
          obtain ⟨z0, e28, q1, q2, q3⟩ := e28
          rw [e28]
          refine (add_up5 z0 _ (n + 10) _ q1 q2 (by omega) (by have := HK.out; omega) q3).mono ?_
          rintro e w'' ⟨⟨z, rfl, y1, y2, y3⟩, rfl⟩
          exact ⟨_, rfl, Ext.refl _, z, rfl, y1, y2, fun h => by have := y3 h; omega⟩
        refine tele_move rfl (.inr rfl) rfl (isUp5 (n + 10)) (fun ρ w' h => h) ?_
        refine tele_nil ?_
        rintro ρ w' hext ⟨f5, f35, f34, f33, f32, f31, f30, f29, f28, f27, f26, f25, f24, f23, f22, f21, f20, -⟩
        clear f20
        clear f21
        clear f22
        clear f23
        clear f24
        clear f25
        clear f26
        clear f27
        clear f28
        clear f29
        clear f30
        clear f31
        clear f32
        clear f33
        clear f34
        clear f35
        replace f5 : (isUp5 (n + 10)).rel (ρ 5) w' := f5
        simp only [puts, Act.put, List.setIfInBounds_toArray, List.set_cons_zero, List.set_cons_succ]
        obtain ⟨z, f5, q1, q2, q3⟩ := f5
        rw [f5]
        clear f5
        go_wp2_with fail
        go_roundw
        case rel => exact ⟨i + 1, z, by omega, by go_num, rfl, q1, q2, (fun h => by have := q3 h; have := HNL.out hn; omega), Ext.trans hx hext⟩
        case measure => simp [intOf]; omega
      · go_wp2_with fail
        go_ret
        exact ⟨⟨_, rfl, fun h => by simp at h⟩, hx⟩
    · clear h4
      have hil : i = ws.length := by omega
      have HIL := Lib.hid hil
      clear hil
      by_cases hn : n ≤ 5000
      · have HB := HNL.out hn
        go_wp2_with fail
        go_ret
        exact ⟨⟨_, rfl, fun h => by have := HIL.out; omega⟩, hx⟩
      · go_wp2_with fail
        go_ret
        exact ⟨⟨_, rfl, fun h => by simp at h⟩, hx⟩
end Go.Proofs.Ytocdifjdeifclaa
