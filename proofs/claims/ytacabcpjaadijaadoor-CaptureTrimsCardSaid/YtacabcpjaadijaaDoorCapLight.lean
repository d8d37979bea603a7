/-
  Layer 13's Light of changes: whatever it answers, a true answer bounds what there is.
-/
import Derived.Test.YtacabcpjaadijaaDoorCapPlain
import Derived.Test.YtacabcpjaadijaaDoorChGood
import Derived.Test.YtacabcpjaadijaaDoorMonoLast
namespace Go.Proofs.YtacabcpjaadijaaDoor
open Go Go.RowKit Mono Num
set_option linter.unusedVariables false
set_option linter.unusedSimpArgs false
set_option maxRecDepth 100000

/-- A sum that is asked about up to 6000 alone. -/
def isUp (lo : Int) : MRel := ⟨fun v _ => ∃ z : Int, v = .int .i64 z ∧ 0 ≤ z ∧ z ≤ 6001 ∧ (z ≤ 6000 → lo ≤ z), fun _ _ _ h _ => h⟩
set_option maxHeartbeats 1000000 in
theorem add_up (a b lo : Int) (w : World) (ha : 0 ≤ a) (ha2 : a ≤ 6001) (hb : 0 ≤ b) (hb2 : b ≤ 9223372036854775807) (hlo : a ≤ 6000 → lo ≤ a) : Calls Tryd.prog 25 #[.int .i64 a, .int .i64 b, .int .i64 6000] w fun e w' => (∃ z : Int, e = .returned (.int .i64 z) ∧ 0 ≤ z ∧ z ≤ 6001 ∧ (z ≤ 6000 → lo + b ≤ z)) ∧ w = w' := by
  go_enter Tryd.func25, Tryd.ntmps25
  by_cases h1 : 6000 < a
  · go_wp2_with fail
    go_ret
    exact ⟨⟨_, rfl, by omega, by omega, by omega⟩, rfl⟩
  by_cases h2 : 6000 < b
  · go_wp2_with fail
    go_ret
    exact ⟨⟨_, rfl, by omega, by omega, by omega⟩, rfl⟩
  by_cases h3 : 6000 - b < a
  · go_wp2_with fail
    go_ret
    exact ⟨⟨_, rfl, by omega, by omega, by omega⟩, rfl⟩
  · go_wp2_with fail
    go_ret
    exact ⟨⟨_, rfl, by omega, by omega, by omega⟩, rfl⟩

def LightB (l : List (Ch × Value)) (q : Bool) : Prop := q = true → l.length ≤ 600 ∧ ∀ x ∈ l, x.1.writes.length ≤ 600
set_option maxHeartbeats 8000000 in
theorem light13_any (Ag : Option Addr) (ng cg : Nat) (v : Value) (l : List (Ch × Value)) (w : World) (hg : (ng : Int) ≤ 9223372036854775807) (hl : Cs w v l) :
    Calls Tryd.prog 8 #[.slice Ag ng cg, v, .slice none 0 0] w fun e w' => (∃ q : Bool, e = .returned (.bool q) ∧ LightB l q) ∧ Ext w w' := by
  obtain ⟨A, c, rfl, g1, g2, g3, g4⟩ := hl.at_
  have H4 := Lib.hid g4
  clear g4 hl
  go_enter Tryd.func8, Tryd.ntmps8
  go_wp2_with fail
  refine (add_up 0 ng 0 _ (by omega) (by omega) (by omega) (by omega) (fun _ => by omega)).mono ?_
  rintro e w1 ⟨⟨y0, rfl, y1, y2, -⟩, rfl⟩
  go_wp2_with fail
  go_loopw [7, 8] (fun n i wr => ∃ (k : Nat) (z : Int), k ≤ l.length ∧ i = .int .i64 k ∧ n = .int .i64 z ∧ 0 ≤ z ∧ z ≤ 6001 ∧ (z ≤ 6000 → 10 * (k : Int) ≤ z ∧ ∀ j x, j < k → l[j]? = some x → 10 * (x.1.writes.length : Int) ≤ z) ∧ Ext w wr) (fun _ i _ => l.length - (intOf i).toNat)
  case atStart => exact ⟨0, y0, Nat.zero_le _, rfl, rfl, y1, y2, (fun _ => ⟨by omega, fun j x hj => absurd hj (by omega)⟩), Ext.refl _⟩
  case round =>
    obtain ⟨i, n0, hi, rfl, rfl, hn0, hn1, hnl, hx⟩ := hrel
    have HNL := Lib.hid hnl
    clear hnl
    by_cases hlt : i < l.length
    · by_cases hn : n0 ≤ 6000
      · obtain ⟨b, off, rfl, hb, hc⟩ := H4.out (by omega)
        obtain ⟨site, seq, sn, ss, va, vb, ws, vw, hget, hws, hin, p0, p1, p2, p3, p4, p5, p6⟩ := hc i hlt
        obtain ⟨Aw, cw, rfl, k1, k2, k3, k4⟩ := hws.at_
        have P6 := Lib.hid p6
        have K4 := Lib.hid k4
        have HG := Lib.hid hget
        clear p0 p1 p2 p3 p4 p5 p6 k4 hc hin hget hws
        go_wp2_with fail
        refine (add_up n0 10 n0 _ hn0 hn1 (by omega) (by omega) (fun _ => Int.le_refl _)).mono ?_
        rintro e w1 ⟨⟨m0, rfl, m1, m2, m3⟩, rfl⟩
        go_wp2_with fail
        go_loopw [7, 9] (fun n kk wr2 => ∃ (k : Nat) (z : Int), k ≤ ws.length ∧ kk = .int .i64 k ∧ n = .int .i64 z ∧ 0 ≤ z ∧ z ≤ 6001 ∧ (z ≤ 6000 → n0 + 10 ≤ z ∧ 10 * (k : Int) ≤ z) ∧ Ext w wr2) (fun _ kk _ => ws.length - (intOf kk).toNat)
        case atStart => exact ⟨0, m0, Nat.zero_le _, rfl, rfl, m1, m2, (fun h => ⟨m3 h, by omega⟩), hx⟩
        case round =>
          obtain ⟨k, z, hk, rfl, rfl, hz0, hz1, hzl, hx⟩ := hrel
          have HZL := Lib.hid hzl
          clear hzl
          have c6 := (hx.cell (p := ⟨b, off + i * 7 + 6, none⟩) hb).trans P6.out
          by_cases hkl : k < ws.length
          · by_cases hz : z ≤ 6000
            · obtain ⟨bw, ow, rfl, hbw, hcw⟩ := K4.out (by omega)
              obtain ⟨key, g, d, val, hget2, x0, x1, x2, x3, hkm, _, hvm⟩ := hcw k hkl
              have HA := Lib.hid (And.intro x0 x3)
              clear hcw hget2 x0 x1 x2 x3
              unfold maxLen at hkm hvm
              go_wp2_with fail
              clear c6
              refine wp_region_mono (by kernel_rfl) (by kernel_rfl) ?_
              refine tele_move rfl (.inl rfl) rfl (isV (.int .i64 z)) (fun ρ w' h => h) ?_
              refine tele_call rfl rfl Tryd.func25 (by kernel_rfl) (isUp (z + 10)) (fun _ _ _ => rfl) ?_ ?_
              · rintro ρ w' he ⟨h43, -⟩
                have e43 : ρ 43 = .int .i64 z := h43
                have z0 := hz0; have z1 := hz1; have zl : z ≤ 6000 → (z : Int) ≤ z := fun _ => Int.le_refl _
                simp only [evR, List.map_toArray, List.map_cons, List.map_nil, e43]
                refine (add_up _ 10 (z) _ z0 z1 (by omega) (by omega) zl).mono ?_
                rintro e w'' ⟨⟨y', rfl, y1, y2, y3⟩, rfl⟩
                exact ⟨_, rfl, Ext.refl _, y', rfl, y1, y2, fun h => by have := y3 h; omega⟩
              refine tele_move rfl (.inl rfl) rfl (isV (.slice (some ⟨b, off, none⟩) l.length c)) (fun ρ w' h => h) ?_
              refine tele_move rfl (.inl rfl) rfl (isV (.int .i64 (i : Int))) (fun ρ w' h => h) ?_
              refine tele_val rfl (.pointer (some ⟨b, off + i * 7, none⟩)) (fun _ _ _ => rfl) ?_ ?_
              · rintro ρ w' he ⟨ha, hb', -⟩
                have ea : ρ 45 = .slice (some ⟨b, off, none⟩) l.length c := ha
                have eb : ρ 46 = .int .i64 (i : Int) := hb'
                exact index_at 7 rfl Tryd.underlying22 ea eb (by omega) (by kernel_rfl)
              refine tele_val rfl (.pointer (some ⟨b, off + i * 7 + 6, none⟩)) (fun _ _ _ => rfl) ?_ ?_
              · rintro ρ w' he ⟨ha, -⟩
                have ea : ρ 47 = .pointer (some ⟨b, off + i * 7, none⟩) := ha
                simp [execOp, evR, ea, go_sem]
              refine tele_val rfl (.slice (some ⟨bw, ow, none⟩) ws.length cw) (fun _ _ _ => rfl) ?_ ?_
              · rintro ρ w' he ⟨ha, -⟩
                have ea : ρ 48 = .pointer (some ⟨b, off + i * 7 + 6, none⟩) := ha
                have c0 := ((hx.trans he).cell (p := ⟨b, off + i * 7 + 6, none⟩) hb).trans P6.out
                simp [execOp, evR, ea, c0, go_sem]
              refine tele_move rfl (.inl rfl) rfl (isV (.int .i64 (k : Int))) (fun ρ w' h => h) ?_
              refine tele_val rfl (.pointer (some ⟨bw, ow + k * 4, none⟩)) (fun _ _ _ => rfl) ?_ ?_
              · rintro ρ w' he ⟨ha, hb', -⟩
                have ea : ρ 49 = .slice (some ⟨bw, ow, none⟩) ws.length cw := ha
                have eb : ρ 50 = .int .i64 (k : Int) := hb'
                exact index_at 4 rfl Tryd.underlying30 ea eb (by omega) (by kernel_rfl)
              refine tele_val rfl (.pointer (some ⟨bw, ow + k * 4, none⟩)) (fun _ _ _ => rfl) ?_ ?_
              · rintro ρ w' he ⟨ha, -⟩
                have ea : ρ 51 = .pointer (some ⟨bw, ow + k * 4, none⟩) := ha
                simp [execOp, evR, ea, go_sem]
              refine tele_val rfl (strV key) (fun _ _ _ => rfl) ?_ ?_
              · rintro ρ w' he ⟨ha, -⟩
                have ea : ρ 52 = .pointer (some ⟨bw, ow + k * 4, none⟩) := ha
                have c0 := ((hx.trans he).cell (p := ⟨bw, ow + k * 4, none⟩) hbw).trans HA.out.1
                simp [execOp, evR, ea, c0, go_sem]
              refine tele_val rfl (.int .i64 ((key.length : Nat) : Int)) (fun _ _ _ => rfl) ?_ ?_
              · rintro ρ w' he ⟨ha, -⟩
                have ea : ρ 53 = strV key := ha
                have hsz := strV_size key
                unfold strV at ea
                simp [execOp, evR, ea, go_sem]
              refine tele_call rfl rfl Tryd.func25 (by kernel_rfl) (isUp (z + 10)) (fun _ _ _ => rfl) ?_ ?_
              · rintro ρ w' he ⟨h44, h54, -⟩
                obtain ⟨y, e44, z0, z1, zl⟩ := (show (isUp (z + 10)).rel (ρ 44) w' from h44)
                have e54 : ρ 54 = .int .i64 ((key.length : Nat) : Int) := h54
                simp only [evR, List.map_toArray, List.map_cons, List.map_nil, e44, e54]
                refine (add_up _ ((key.length : Nat) : Int) (z + 10) _ z0 z1 (by omega) (by omega) zl).mono ?_
                rintro e w'' ⟨⟨y', rfl, y1, y2, y3⟩, rfl⟩
                exact ⟨_, rfl, Ext.refl _, y', rfl, y1, y2, fun h => by have := y3 h; omega⟩
              refine tele_move rfl (.inl rfl) rfl (isV (.slice (some ⟨b, off, none⟩) l.length c)) (fun ρ w' h => h) ?_
              refine tele_move rfl (.inl rfl) rfl (isV (.int .i64 (i : Int))) (fun ρ w' h => h) ?_
              refine tele_val rfl (.pointer (some ⟨b, off + i * 7, none⟩)) (fun _ _ _ => rfl) ?_ ?_
              · rintro ρ w' he ⟨ha, hb', -⟩
                have ea : ρ 56 = .slice (some ⟨b, off, none⟩) l.length c := ha
                have eb : ρ 57 = .int .i64 (i : Int) := hb'
                exact index_at 7 rfl Tryd.underlying22 ea eb (by omega) (by kernel_rfl)
              refine tele_val rfl (.pointer (some ⟨b, off + i * 7 + 6, none⟩)) (fun _ _ _ => rfl) ?_ ?_
              · rintro ρ w' he ⟨ha, -⟩
                have ea : ρ 58 = .pointer (some ⟨b, off + i * 7, none⟩) := ha
                simp [execOp, evR, ea, go_sem]
              refine tele_val rfl (.slice (some ⟨bw, ow, none⟩) ws.length cw) (fun _ _ _ => rfl) ?_ ?_
              · rintro ρ w' he ⟨ha, -⟩
                have ea : ρ 59 = .pointer (some ⟨b, off + i * 7 + 6, none⟩) := ha
                have c0 := ((hx.trans he).cell (p := ⟨b, off + i * 7 + 6, none⟩) hb).trans P6.out
                simp [execOp, evR, ea, c0, go_sem]
              refine tele_move rfl (.inl rfl) rfl (isV (.int .i64 (k : Int))) (fun ρ w' h => h) ?_
              refine tele_val rfl (.pointer (some ⟨bw, ow + k * 4, none⟩)) (fun _ _ _ => rfl) ?_ ?_
              · rintro ρ w' he ⟨ha, hb', -⟩
                have ea : ρ 60 = .slice (some ⟨bw, ow, none⟩) ws.length cw := ha
                have eb : ρ 61 = .int .i64 (k : Int) := hb'
                exact index_at 4 rfl Tryd.underlying30 ea eb (by omega) (by kernel_rfl)
              refine tele_val rfl (.pointer (some ⟨bw, ow + k * 4 + 3, none⟩)) (fun _ _ _ => rfl) ?_ ?_
              · rintro ρ w' he ⟨ha, -⟩
                have ea : ρ 62 = .pointer (some ⟨bw, ow + k * 4, none⟩) := ha
                simp [execOp, evR, ea, go_sem]
              refine tele_val rfl (strV val) (fun _ _ _ => rfl) ?_ ?_
              · rintro ρ w' he ⟨ha, -⟩
                have ea : ρ 63 = .pointer (some ⟨bw, ow + k * 4 + 3, none⟩) := ha
                have c0 := ((hx.trans he).cell (p := ⟨bw, ow + k * 4 + 3, none⟩) hbw).trans HA.out.2
                simp [execOp, evR, ea, c0, go_sem]
              refine tele_val rfl (.int .i64 ((val.length : Nat) : Int)) (fun _ _ _ => rfl) ?_ ?_
              · rintro ρ w' he ⟨ha, -⟩
                have ea : ρ 64 = strV val := ha
                have hsz := strV_size val
                unfold strV at ea
                simp [execOp, evR, ea, go_sem]
              refine tele_call rfl rfl Tryd.func25 (by kernel_rfl) (isUp (z + 10)) (fun _ _ _ => rfl) ?_ ?_
              · rintro ρ w' he ⟨h55, h65, -⟩
                obtain ⟨y, e55, z0, z1, zl⟩ := (show (isUp (z + 10)).rel (ρ 55) w' from h55)
                have e65 : ρ 65 = .int .i64 ((val.length : Nat) : Int) := h65
                simp only [evR, List.map_toArray, List.map_cons, List.map_nil, e55, e65]
                refine (add_up _ ((val.length : Nat) : Int) (z + 10) _ z0 z1 (by omega) (by omega) zl).mono ?_
                rintro e w'' ⟨⟨y', rfl, y1, y2, y3⟩, rfl⟩
                exact ⟨_, rfl, Ext.refl _, y', rfl, y1, y2, fun h => by have := y3 h; omega⟩
              refine tele_move rfl (.inr rfl) rfl (isUp (z + 10)) (fun ρ w' h => h) ?_
              refine tele_nil ?_
              rintro ρ w' hext ⟨f7, -⟩
              obtain ⟨y, f7, q0, q1, q2⟩ := (show (isUp (z + 10)).rel (ρ 7) w' from f7)
              simp only [puts, Act.put, List.setIfInBounds_toArray, List.set_cons_zero, List.set_cons_succ]
              rw [f7]
              clear f7
              go_wp2_with fail
              go_roundw
              case rel => exact ⟨k + 1, y, by omega, by simp, rfl, q0, q1, (fun h => by have h1 := q2 h; have h2 := HZL.out hz; omega), hx.trans hext⟩
              case measure => simp [intOf]; omega
            · go_wp2_with fail
              go_roundw
              case rel => exact ⟨i + 1, z, by omega, by simp, rfl, hz0, hz1, (fun h => by
                obtain ⟨a1, a2⟩ := HZL.out h
                obtain ⟨b1, b2⟩ := HNL.out hn
                refine ⟨by omega, fun j x hj hx' => ?_⟩
                rcases Nat.lt_or_ge j i with h' | h'
                · have := b2 j x h' hx'
                  omega
                · obtain rfl : j = i := by omega
                  rw [HG.out] at hx'
                  injection hx' with hx'
                  subst hx'
                  dsimp only
                  omega), hx⟩
              case measure => simp [intOf]; omega
          · go_wp2_with fail
            go_roundw
            case rel => exact ⟨i + 1, z, by omega, by simp, rfl, hz0, hz1, (fun h => by
              obtain ⟨a1, a2⟩ := HZL.out h
              obtain ⟨b1, b2⟩ := HNL.out hn
              refine ⟨by omega, fun j x hj hx' => ?_⟩
              rcases Nat.lt_or_ge j i with h' | h'
              · have := b2 j x h' hx'
                omega
              · obtain rfl : j = i := by omega
                rw [HG.out] at hx'
                injection hx' with hx'
                subst hx'
                dsimp only
                omega), hx⟩
            case measure => simp [intOf]; omega
      · go_wp2_with fail
        go_loopw [7, 69] (fun n kk wr2 => n = .int .i64 n0 ∧ kk = .int .i64 0 ∧ Ext w wr2) (fun _ _ _ => 0)
        case atStart => exact ⟨rfl, rfl, hx⟩
        case round =>
          obtain ⟨rfl, rfl, hx⟩ := hrel
          go_wp2_with fail
          go_ret
          exact ⟨⟨_, rfl, fun h => by simp at h; omega⟩, hx⟩
    · go_wp2_with fail
      go_loopw [7, 69] (fun n kk wr2 => n = .int .i64 n0 ∧ kk = .int .i64 0 ∧ Ext w wr2) (fun _ _ _ => 0)
      case atStart => exact ⟨rfl, rfl, hx⟩
      case round =>
        obtain ⟨rfl, rfl, hx⟩ := hrel
        go_wp2_with fail
        go_ret
        refine ⟨⟨_, rfl, fun h => ?_⟩, hx⟩
        have h6 : n0 ≤ 6000 := by simpa using h
        obtain ⟨b1, b2⟩ := HNL.out h6
        refine ⟨by omega, fun x hx' => ?_⟩
        obtain ⟨j, hj⟩ := List.mem_iff_getElem?.1 hx'
        have := b2 j x (by have := (List.getElem?_eq_some_iff.1 hj).1; omega) hj
        omega
end Go.Proofs.YtacabcpjaadijaaDoor
