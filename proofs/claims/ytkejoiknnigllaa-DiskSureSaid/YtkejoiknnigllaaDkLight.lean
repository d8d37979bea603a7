/-
  Layer 15: Light of acts: whatever it answers, a true answer bounds what there is.
-/
import Derived.Test.YtkejoiknnigllaaDkOpen
namespace Go.Proofs.Ytkejoiknnigllaa
open Go Go.RowKit Mono
set_option linter.unusedVariables false
set_option linter.unusedSimpArgs false
set_option maxRecDepth 100000
set_option maxHeartbeats 2000000

theorem index_at {w : World} {o : Oper} {f : Operand → Value} {t e : TypeId} {x y : Operand} {b off c n i : Nat} (k : Nat) (hop : o.op = .indexAddr t x y) (ht : Try.prog.underlying t = some (.slice e))
    (hx : f x = .slice (some ⟨b, off, none⟩) n c) (hy : f y = .int .i64 (i : Int)) (hi : i < n) (hk : (sizeOf e).run Try.prog w = .ok k w) :
    (execOp f o).run Try.prog w = .ok (.value (.pointer (some ⟨b, off + i * k, none⟩))) w := by
  have hi' : (i : Int) < (n : Int) := by omega
  have h0 : (0 : Int) ≤ (i : Int) := by omega
  simp [execOp, hop, hx, hy, Instr.indexAt, run_underlying ht, hi', h0, hk, add_at, go_sem]
  intro h
  omega

/-- A sum that is asked about up to 20000 alone. -/
def isUp (lo : Int) : MRel := ⟨fun v _ => ∃ z : Int, v = .int .i64 z ∧ 0 ≤ z ∧ z ≤ 20001 ∧ (z ≤ 20000 → lo ≤ z), fun _ _ _ h _ => h⟩
theorem add_up (a b lo : Int) (w : World) (ha : 0 ≤ a) (ha2 : a ≤ 20001) (hb : 0 ≤ b) (hb2 : b ≤ 9223372036854775807) (hlo : a ≤ 20000 → lo ≤ a) : Calls Try.prog 36 #[.int .i64 a, .int .i64 b, .int .i64 20000] w fun e w' => (∃ z : Int, e = .returned (.int .i64 z) ∧ 0 ≤ z ∧ z ≤ 20001 ∧ (z ≤ 20000 → lo + b ≤ z)) ∧ w = w' := by
  go_enter Try.func36, Try.ntmps36
  by_cases h1 : 20000 < a
  · go_wp2_with fail
    go_ret
    exact ⟨⟨_, rfl, by omega, by omega, by omega⟩, rfl⟩
  by_cases h2 : 20000 < b
  · go_wp2_with fail
    go_ret
    exact ⟨⟨_, rfl, by omega, by omega, by omega⟩, rfl⟩
  by_cases h3 : 20000 - b < a
  · go_wp2_with fail
    go_ret
    exact ⟨⟨_, rfl, by omega, by omega, by omega⟩, rfl⟩
  · go_wp2_with fail
    go_ret
    exact ⟨⟨_, rfl, by omega, by omega, by omega⟩, rfl⟩
/-- What a light list of acts is. -/
def LightA (l : List (Act × Value)) : Prop := l.length ≤ 1000 ∧ ∀ p ∈ l, p.1.name.length ≤ 20000 ∧ p.1.data.length ≤ 20000
theorem light_any (v : Value) (l : List (Act × Value)) (W : World) (hl : As W v l) :
    Calls Try.prog 8 #[v] W fun e w' => (∃ q : Bool, e = .returned (.bool q) ∧ (q = true → LightA l)) ∧ Ext W w' := by
  obtain ⟨A, c, rfl, g1, g2, g4⟩ := hl.at_
  have H4 := Lib.hid g4
  have HIN := Lib.hid hl.in_
  unfold maxLen at g2
  clear g4 hl
  go_enter Try.func8, Try.ntmps8
  go_wp2_with fail
  go_loopw [3, 4] (fun n i wr => ∃ (k : Nat) (z : Int), k ≤ l.length ∧ i = .int .i64 k ∧ n = .int .i64 z ∧ 0 ≤ z ∧ z ≤ 20001 ∧ (z ≤ 20000 → 20 * (k : Int) ≤ z ∧ ∀ (j : Nat) (x : Act × Value), j < k → l[j]? = some x → ((x.1.name.length : Nat) : Int) ≤ z ∧ ((x.1.data.length : Nat) : Int) ≤ z) ∧ Ext W wr) (fun _ i _ => l.length - (intOf i).toNat)
  case atStart => exact ⟨0, 0, Nat.zero_le _, rfl, rfl, by omega, by omega, (fun _ => ⟨by omega, fun j x hj => absurd hj (by omega)⟩), Ext.refl _⟩
  case round =>
    obtain ⟨i, z, hi, rfl, rfl, hz0, hz1, hnl, hx⟩ := hrel
    have HNL := Lib.hid hnl
    clear hnl
    by_cases hlt : i < l.length
    · by_cases hn : z ≤ 20000
      · obtain ⟨b, off, rfl, hb, hc⟩ := H4.out (by omega)
        obtain ⟨⟨p, x⟩, hget⟩ : ∃ p, l[i]? = some p := ⟨_, List.getElem?_eq_getElem hlt⟩
        have hin := HIN.out (p, x) (List.mem_of_getElem? hget)
        dsimp only at hin
        have hnm := hin.2.1
        obtain ⟨Ad, cd, hv, d1, d2, _, _⟩ := hin.1.open_
        subst hv
        unfold maxLen at hnm d2
        have c1 : W.cell? ⟨b, off + i * 5 + 1, none⟩ = some (strV p.name) := by have := hc i _ hget 1 _ rfl; rwa [← Nat.add_assoc] at this
        have c2 : W.cell? ⟨b, off + i * 5 + 2, none⟩ = some (.slice Ad p.data.length cd) := by have := hc i _ hget 2 _ rfl; rwa [← Nat.add_assoc] at this
        have C1 := Lib.hid c1
        have C2 := Lib.hid c2
        have HG := Lib.hid hget
        have HIX := Lib.hid hi
        clear hc hget hin c1 c2
        go_wp2_with fail
        have c1 := C1.out
        have c2 := C2.out
        refine wp_region_mono (by kernel_rfl) (by kernel_rfl) ?_
        refine tele_move rfl (.inl rfl) rfl (isV (.int .i64 z)) (fun ρ w' h => h) ?_
        refine tele_call rfl rfl Try.func36 (by kernel_rfl) (isUp (z + 20)) (fun _ _ _ => rfl) ?_ ?_
        · rintro ρ w' he ⟨h15, -⟩
          have e15 : ρ 15 = (.int .i64 z) := h15
          simp only [evR, List.map_toArray, List.map_cons, List.map_nil, e15]
          refine (add_up z 20 (z) _ hz0 hz1 (by omega) (by omega) (fun _ => by omega)).mono ?_
          rintro e w'' ⟨⟨y', rfl, y1, y2, y3⟩, rfl⟩
          exact ⟨_, rfl, Ext.refl _, y', rfl, y1, y2, fun h => by have := y3 h; omega⟩
        refine tele_move rfl (.inl rfl) rfl (isV (.slice (some ⟨b, off, none⟩) l.length c)) (fun ρ w' h => h) ?_
        refine tele_move rfl (.inl rfl) rfl (isV (.int .i64 (i : Int))) (fun ρ w' h => h) ?_
        refine tele_val rfl (.pointer (some ⟨b, off + i * 5, none⟩)) (fun _ _ _ => rfl) ?_ ?_
        · rintro ρ w' he ⟨h17, h18, -⟩
          have e17 : ρ 17 = (.slice (some ⟨b, off, none⟩) l.length c) := h17
          have e18 : ρ 18 = (.int .i64 (i : Int)) := h18
          exact index_at 5 rfl Try.underlying22 e17 e18 (by omega) (by kernel_rfl)
        refine tele_val rfl (.pointer (some ⟨b, off + i * 5 + 1, none⟩)) (fun _ _ _ => rfl) ?_ ?_
        · rintro ρ w' he ⟨h19, -⟩
          have e19 : ρ 19 = (.pointer (some ⟨b, off + i * 5, none⟩)) := h19
          simp [execOp, evR, e19, go_sem]
        refine tele_val rfl (strV p.name) (fun _ _ _ => rfl) ?_ ?_
        · rintro ρ w' he ⟨h20, -⟩
          have e20 : ρ 20 = (.pointer (some ⟨b, off + i * 5 + 1, none⟩)) := h20
          have c := (hx.trans he).cell (p := ⟨b, off + i * 5 + 1, none⟩) hb |>.trans c1
          simp [execOp, evR, e20, c, go_sem]
        refine tele_val rfl (.int .i64 ((p.name.length : Nat) : Int)) (fun _ _ _ => rfl) ?_ ?_
        · rintro ρ w' he ⟨h21, -⟩
          have e21 : ρ 21 = (strV p.name) := h21
          have hsz := strV_size p.name
          unfold strV at e21
          simp [execOp, evR, e21, go_sem]
        refine tele_call rfl rfl Try.func36 (by kernel_rfl) (isUp (z + 20 + ((p.name.length : Nat) : Int))) (fun _ _ _ => rfl) ?_ ?_
        · rintro ρ w' he ⟨h16, h22, -⟩
          have e16 : (isUp (z + 20)).rel (ρ 16) w' := h16
          have e22 : ρ 22 = (.int .i64 ((p.name.length : Nat) : Int)) := h22
          simp only [evR, List.map_toArray, List.map_cons, List.map_nil, e22]
          obtain ⟨y, q, z0, z1, zl⟩ := e16
          simp only [q]
          refine (add_up y ((p.name.length : Nat) : Int) (z + 20) _ z0 z1 (by omega) (by omega) zl).mono ?_
          rintro e w'' ⟨⟨y', rfl, y1, y2, y3⟩, rfl⟩
          exact ⟨_, rfl, Ext.refl _, y', rfl, y1, y2, fun h => by have := y3 h; omega⟩
        refine tele_move rfl (.inl rfl) rfl (isV (.slice (some ⟨b, off, none⟩) l.length c)) (fun ρ w' h => h) ?_
        refine tele_move rfl (.inl rfl) rfl (isV (.int .i64 (i : Int))) (fun ρ w' h => h) ?_
        refine tele_val rfl (.pointer (some ⟨b, off + i * 5, none⟩)) (fun _ _ _ => rfl) ?_ ?_
        · rintro ρ w' he ⟨h24, h25, -⟩
          have e24 : ρ 24 = (.slice (some ⟨b, off, none⟩) l.length c) := h24
          have e25 : ρ 25 = (.int .i64 (i : Int)) := h25
          exact index_at 5 rfl Try.underlying22 e24 e25 (by omega) (by kernel_rfl)
        refine tele_val rfl (.pointer (some ⟨b, off + i * 5 + 2, none⟩)) (fun _ _ _ => rfl) ?_ ?_
        · rintro ρ w' he ⟨h26, -⟩
          have e26 : ρ 26 = (.pointer (some ⟨b, off + i * 5, none⟩)) := h26
          simp [execOp, evR, e26, go_sem]
        refine tele_val rfl (.slice Ad p.data.length cd) (fun _ _ _ => rfl) ?_ ?_
        · rintro ρ w' he ⟨h27, -⟩
          have e27 : ρ 27 = (.pointer (some ⟨b, off + i * 5 + 2, none⟩)) := h27
          have c := (hx.trans he).cell (p := ⟨b, off + i * 5 + 2, none⟩) hb |>.trans c2
          simp [execOp, evR, e27, c, go_sem]
        refine tele_val rfl (.int .i64 ((p.data.length : Nat) : Int)) (fun _ _ _ => rfl) ?_ ?_
        · rintro ρ w' he ⟨h28, -⟩
          have e28 : ρ 28 = (.slice Ad p.data.length cd) := h28
          simp [execOp, evR, e28, go_sem]
        refine tele_call rfl rfl Try.func36 (by kernel_rfl) (isUp (z + 20 + ((p.name.length : Nat) : Int) + ((p.data.length : Nat) : Int))) (fun _ _ _ => rfl) ?_ ?_
        · rintro ρ w' he ⟨h23, h29, -⟩
          have e23 : (isUp (z + 20 + ((p.name.length : Nat) : Int))).rel (ρ 23) w' := h23
          have e29 : ρ 29 = (.int .i64 ((p.data.length : Nat) : Int)) := h29
          simp only [evR, List.map_toArray, List.map_cons, List.map_nil, e29]
          obtain ⟨y, q, z0, z1, zl⟩ := e23
          simp only [q]
          refine (add_up y ((p.data.length : Nat) : Int) (z + 20 + ((p.name.length : Nat) : Int)) _ z0 z1 (by omega) (by omega) zl).mono ?_
          rintro e w'' ⟨⟨y', rfl, y1, y2, y3⟩, rfl⟩
          exact ⟨_, rfl, Ext.refl _, y', rfl, y1, y2, fun h => by have := y3 h; omega⟩
        refine tele_move rfl (.inr rfl) rfl (isUp (z + 20 + ((p.name.length : Nat) : Int) + ((p.data.length : Nat) : Int))) (fun ρ w' h => h) ?_
        refine tele_nil ?_
        rintro ρ w' hext ⟨f3, f30, f29, f28, f27, f26, f25, f24, f23, f22, f21, f20, f19, f18, f17, f16, f15, -⟩
        replace f15 : ρ 15 = (.int .i64 z) := f15
        replace f16 : (isUp (z + 20)).rel (ρ 16) w' := f16
        replace f17 : ρ 17 = (.slice (some ⟨b, off, none⟩) l.length c) := f17
        replace f18 : ρ 18 = (.int .i64 (i : Int)) := f18
        replace f19 : ρ 19 = (.pointer (some ⟨b, off + i * 5, none⟩)) := f19
        replace f20 : ρ 20 = (.pointer (some ⟨b, off + i * 5 + 1, none⟩)) := f20
        replace f21 : ρ 21 = (strV p.name) := f21
        replace f22 : ρ 22 = (.int .i64 ((p.name.length : Nat) : Int)) := f22
        replace f23 : (isUp (z + 20 + ((p.name.length : Nat) : Int))).rel (ρ 23) w' := f23
        replace f24 : ρ 24 = (.slice (some ⟨b, off, none⟩) l.length c) := f24
        replace f25 : ρ 25 = (.int .i64 (i : Int)) := f25
        replace f26 : ρ 26 = (.pointer (some ⟨b, off + i * 5, none⟩)) := f26
        replace f27 : ρ 27 = (.pointer (some ⟨b, off + i * 5 + 2, none⟩)) := f27
        replace f28 : ρ 28 = (.slice Ad p.data.length cd) := f28
        replace f29 : ρ 29 = (.int .i64 ((p.data.length : Nat) : Int)) := f29
        replace f30 : (isUp (z + 20 + ((p.name.length : Nat) : Int) + ((p.data.length : Nat) : Int))).rel (ρ 30) w' := f30
        replace f3 : (isUp (z + 20 + ((p.name.length : Nat) : Int) + ((p.data.length : Nat) : Int))).rel (ρ 3) w' := f3
        simp only [puts, Act.put, List.setIfInBounds_toArray, List.set_cons_zero, List.set_cons_succ]
        obtain ⟨y, f3, q0, q1, q2⟩ := (show (isUp (z + 20 + ((p.name.length : Nat) : Int) + ((p.data.length : Nat) : Int))).rel (ρ 3) w' from f3)
        rw [f3]
        clear f3 f15 f16 f17 f18 f19 f20 f21 f22 f23 f24 f25 f26 f27 f28 f29 f30 c1 c2
        have HQ := Lib.hid q2
        have HXE := Lib.hid (hx.trans hext)
        clear q2 hext
        go_wp2_with fail
        go_roundw
        case rel => exact ⟨i + 1, y, by omega, by simp, rfl, q0, q1, (fun h => by
          obtain ⟨a1, a2⟩ := HNL.out hn
          have b1 := HQ.out h
          refine ⟨by omega, fun j x hj hx' => ?_⟩
          rcases Nat.lt_or_ge j i with h' | h'
          · have := a2 j x h' hx'
            omega
          · obtain rfl : j = i := by omega
            rw [HG.out] at hx'
            injection hx' with hx'
            subst hx'
            dsimp only
            omega), HXE.out⟩
        case measure => simp [intOf]; omega
      · go_wp2_with fail
        go_ret
        exact ⟨.inl rfl, hx⟩
    · obtain rfl : i = l.length := by omega
      by_cases hn : z ≤ 20000
      · go_wp2_with fail
        go_ret
        refine ⟨⟨_, rfl, fun _ => ?_⟩, hx⟩
        obtain ⟨a1, a2⟩ := HNL.out hn
        refine ⟨by omega, fun p hp => ?_⟩
        obtain ⟨j, hj⟩ := List.getElem?_of_mem hp
        have := a2 j p (List.getElem?_eq_some_iff.1 hj).1 hj
        omega
      · go_wp2_with fail
        go_ret
        exact ⟨.inl rfl, hx⟩
end Go.Proofs.Ytkejoiknnigllaa
