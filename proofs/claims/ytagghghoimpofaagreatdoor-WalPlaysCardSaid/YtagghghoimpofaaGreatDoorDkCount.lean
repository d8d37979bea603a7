/-
 Layer 15: an operation is counted, and done, if the power does not fail in it.
-/
import Derived.Test.YtagghghoimpofaaGreatDoorDkLose
namespace Go.Proofs.YtagghghoimpofaaGreatDoor
open Go Go.RowKit Mono
open Go.Maps (Keyed has size)
set_option linter.unusedVariables false
set_option linter.unusedSimpArgs false
set_option maxRecDepth 100000

/-- The plan is one operation nearer. -/
theorem DkU.putPlan {u : Int} {z bd bm pl : Nat} {W : World} {d : Dk} {ms : List FilM} (h : DkU u z W bd bm pl d ms) {n n' : Nat} {k : Int} (hp : d.plan = some (n, k)) : DkU u z (W.setCell ⟨pl, 0, none⟩ (.int .i64 (n' : Int))) bd bm pl { d with plan := some (n', k) } ms := by
 obtain ⟨hp1, hz⟩ := h.plan n k hp
 have hkb := Kb.set (fun k => k = pl) W pl 0 (.int .i64 (n' : Int)) rfl
 obtain ⟨nn, D, ho, hm⟩ := h.map
 refine ⟨h.fs, ?_, fun a b hab => ?_, ⟨nn, D, ho.setCell (map_ne hp1 ho).symm _, hm⟩, fun m hm => ⟨(h.files m hm).1.other _ ((h.files m hm).1.ne hp1 (by decide)), (h.files m hm).2⟩, fun m hm => (h.bytes m hm).kb hkb (fun j hj e => (h.bytes m hm).ne hp1 (by decide) j hj e), h.blks, h.zd, h.zm⟩
 ·have := h.str.other (a := ⟨pl, 0, none⟩) (.int .i64 (n' : Int)) (h.str.ne hp1 (by decide))
  have e : dstrU u { d with plan := some (n', k) } bm pl = dstrU u d bm pl := by simp [dstrU, planV, hp]
  rw [e]
  exact this
 ·injection hab with hab
  injection hab with e1 e2
  subst e1 e2
  exact ⟨hp1.set 0 _, hz⟩

theorem count_Make {z bd bm pl : Nat} {W : World} {d : Dk} {ms : List FilM} (h : DkM z W bd bm pl d ms) (hok : d.Ok) (hsm : d.Small) (caps : Array Value) (Q : World → Prop)
  (hdo : ∀ w, DkS z W w bd bm pl d ms pl d.tick ms → Calls Tryz.prog 76 caps w fun e w' => e = .returned (.tuple #[]) ∧ Q w') :
  Calls Tryz.prog 75 #[.pointer (some ⟨bd, 0, none⟩), .func (.func 76) #[] caps] W fun e w' =>
   (∀ k, d.dead = some k → e = .returned (.int .i64 150) ∧ DkS z W w' bd bm pl d ms pl (d.lose k) (ms.map (FilM.lose k))) ∧ (d.dead = none → e = .returned (.int .i64 0) ∧ Q w') := by
 have k6 := h.str.blk.cell (i := 6) rfl
 have k4 := h.str.blk.cell (i := 4) rfl
 have t4 := h.str.blk.thaw 4
 have HH := Lib.hid h
 have HOK := Lib.hid hok
 have hw4 : IntKind.i64.wrap ((d.ops : Int) + 1) = ((d.ops + 1 : Nat) : Int) := by rw [IntWalk.i64_in _ (by have := hsm.cnt; omega)]; omega
 have HDO := Lib.hid hdo
 clear hdo
 rcases hpl : d.plan with _ | ⟨n, k⟩
 ·have hd : d.dead = none := by simp [Dk.dead, hpl]
  have ht : d.tick = { d with ops := d.ops + 1 } := by simp [Dk.tick, hpl]
  simp only [hd]
  rw [hpl] at k6
  simp only [planV] at k6
  have hP := h.put (u' := (d.used : Int)) (d' := d.tick) (pl' := pl) 4 (.int .i64 ((d.ops + 1 : Nat) : Int)) (by rw [ht]; rfl) (by rw [ht]) (by rw [ht]; exact h.plan)
  have hK := Kb.set (dall bd bm pl d ms) W bd 4 (.int .i64 ((d.ops + 1 : Nat) : Int)) (.inl (.inl rfl))
  have hu : d.tick.used = d.used := by rw [ht]; rfl
  rw [← hu] at hP
  have HD := Lib.hid (HDO.out _ ⟨hP, hK, fun b hb => .inl (dall_same (by rw [ht]; exact fun h => h) (fun m hm => ⟨m, hm, rfl, fun _ h => h⟩) b hb)⟩)
  clear hP hK hu ht
  go_enter Tryz.func75, Tryz.ntmps75
  go_wp2_with fail
  refine HD.out.mono ?_
  rintro e w1 ⟨rfl, hq⟩
  go_wp2_with fail
  go_ret
  exact ⟨fun k hk => (by cases hk), fun _ => ⟨rfl, hq⟩⟩
 ·have hp1 := (h.plan n k hpl).1
  have q0 := hp1.blk.cell (i := 0) rfl
  have q1 := hp1.blk.cell (i := 1) rfl
  have tq0 := hp1.blk.thaw 0
  have hn : n < 9223372036854775808 := hsm.plan n k hpl
  have hne : pl ≠ bd := hp1.ne h.str (by decide)
  rw [hpl] at k6
  simp only [planV] at k6
  rcases n with _ | n
  ·have hd : d.dead = some k := by simp [Dk.dead, hpl]
   have HL := Lib.hid (lose_any h hok hsm.cnt k)
   simp only [hd]
   clear hp1
   go_enter Tryz.func75, Tryz.ntmps75
   go_wp2_with fail
   refine HL.out.mono ?_
   rintro e w1 ⟨rfl, hq, hkb⟩
   go_wp2_with fail
   go_ret
   exact ⟨fun k1 hk => (by cases hk; exact ⟨rfl, DkS.of_lose hq hkb HH.out⟩), fun h => (by cases h)⟩
  ·have hd : d.dead = none := by simp [Dk.dead, hpl]
   have ht : d.tick = { d with plan := some (n, k), ops := d.ops + 1 } := by simp [Dk.tick, hpl]
   simp only [hd]
   have hwn : IntKind.i64.wrap (((n + 1 : Nat) : Int) - 1) = (n : Int) := by rw [IntWalk.i64_in _ (by omega)]; omega
   have hz0 : ¬ (((n + 1 : Nat) : Int) = 0) := by omega
   have h1 := h.putPlan (n' := n) hpl
   have hP := h1.put (u' := (d.used : Int)) (d' := d.tick) (pl' := pl) 4 (.int .i64 ((d.ops + 1 : Nat) : Int)) (by rw [ht]; rfl) (by rw [ht]) (by rw [ht]; exact h1.plan)
   have hK := (Kb.set (dall bd bm pl d ms) W pl 0 (.int .i64 (n : Int)) (.inl (.inr (.inr (.inl ⟨by rw [hpl]; rfl, rfl⟩))))).trans (Kb.set (dall bd bm pl d ms) _ bd 4 (.int .i64 ((d.ops + 1 : Nat) : Int)) (.inl (.inl rfl))) (fun _ h => .inl h)
   have hu : d.tick.used = d.used := by rw [ht]; rfl
   rw [← hu] at hP
   have HD := Lib.hid (HDO.out _ ⟨hP, hK, fun b hb => .inl (dall_same (by rw [ht, hpl]; exact fun _ => rfl) (fun m hm => ⟨m, hm, rfl, fun _ h => h⟩) b hb)⟩)
   clear hP hK hu ht h1 hp1
   generalize ((n + 1 : Nat) : Int) = N1 at *
   go_enter Tryz.func75, Tryz.ntmps75
   go_wp2_with fail
   refine HD.out.mono ?_
   rintro e w1 ⟨rfl, hq⟩
   go_wp2_with fail
   go_ret
   exact ⟨fun k hk => (by cases hk), fun _ => ⟨rfl, hq⟩⟩

theorem count_Append {z bd bm pl : Nat} {W : World} {d : Dk} {ms : List FilM} (h : DkM z W bd bm pl d ms) (hok : d.Ok) (hsm : d.Small) (caps : Array Value) (Q : World → Prop)
  (hdo : ∀ w, DkS z W w bd bm pl d ms pl d.tick ms → Calls Tryz.prog 82 caps w fun e w' => e = .returned (.tuple #[]) ∧ Q w') :
  Calls Tryz.prog 75 #[.pointer (some ⟨bd, 0, none⟩), .func (.func 82) #[] caps] W fun e w' =>
   (∀ k, d.dead = some k → e = .returned (.int .i64 150) ∧ DkS z W w' bd bm pl d ms pl (d.lose k) (ms.map (FilM.lose k))) ∧ (d.dead = none → e = .returned (.int .i64 0) ∧ Q w') := by
 have k6 := h.str.blk.cell (i := 6) rfl
 have k4 := h.str.blk.cell (i := 4) rfl
 have t4 := h.str.blk.thaw 4
 have HH := Lib.hid h
 have HOK := Lib.hid hok
 have hw4 : IntKind.i64.wrap ((d.ops : Int) + 1) = ((d.ops + 1 : Nat) : Int) := by rw [IntWalk.i64_in _ (by have := hsm.cnt; omega)]; omega
 have HDO := Lib.hid hdo
 clear hdo
 rcases hpl : d.plan with _ | ⟨n, k⟩
 ·have hd : d.dead = none := by simp [Dk.dead, hpl]
  have ht : d.tick = { d with ops := d.ops + 1 } := by simp [Dk.tick, hpl]
  simp only [hd]
  rw [hpl] at k6
  simp only [planV] at k6
  have hP := h.put (u' := (d.used : Int)) (d' := d.tick) (pl' := pl) 4 (.int .i64 ((d.ops + 1 : Nat) : Int)) (by rw [ht]; rfl) (by rw [ht]) (by rw [ht]; exact h.plan)
  have hK := Kb.set (dall bd bm pl d ms) W bd 4 (.int .i64 ((d.ops + 1 : Nat) : Int)) (.inl (.inl rfl))
  have hu : d.tick.used = d.used := by rw [ht]; rfl
  rw [← hu] at hP
  have HD := Lib.hid (HDO.out _ ⟨hP, hK, fun b hb => .inl (dall_same (by rw [ht]; exact fun h => h) (fun m hm => ⟨m, hm, rfl, fun _ h => h⟩) b hb)⟩)
  clear hP hK hu ht
  go_enter Tryz.func75, Tryz.ntmps75
  go_wp2_with fail
  refine HD.out.mono ?_
  rintro e w1 ⟨rfl, hq⟩
  go_wp2_with fail
  go_ret
  exact ⟨fun k hk => (by cases hk), fun _ => ⟨rfl, hq⟩⟩
 ·have hp1 := (h.plan n k hpl).1
  have q0 := hp1.blk.cell (i := 0) rfl
  have q1 := hp1.blk.cell (i := 1) rfl
  have tq0 := hp1.blk.thaw 0
  have hn : n < 9223372036854775808 := hsm.plan n k hpl
  have hne : pl ≠ bd := hp1.ne h.str (by decide)
  rw [hpl] at k6
  simp only [planV] at k6
  rcases n with _ | n
  ·have hd : d.dead = some k := by simp [Dk.dead, hpl]
   have HL := Lib.hid (lose_any h hok hsm.cnt k)
   simp only [hd]
   clear hp1
   go_enter Tryz.func75, Tryz.ntmps75
   go_wp2_with fail
   refine HL.out.mono ?_
   rintro e w1 ⟨rfl, hq, hkb⟩
   go_wp2_with fail
   go_ret
   exact ⟨fun k1 hk => (by cases hk; exact ⟨rfl, DkS.of_lose hq hkb HH.out⟩), fun h => (by cases h)⟩
  ·have hd : d.dead = none := by simp [Dk.dead, hpl]
   have ht : d.tick = { d with plan := some (n, k), ops := d.ops + 1 } := by simp [Dk.tick, hpl]
   simp only [hd]
   have hwn : IntKind.i64.wrap (((n + 1 : Nat) : Int) - 1) = (n : Int) := by rw [IntWalk.i64_in _ (by omega)]; omega
   have hz0 : ¬ (((n + 1 : Nat) : Int) = 0) := by omega
   have h1 := h.putPlan (n' := n) hpl
   have hP := h1.put (u' := (d.used : Int)) (d' := d.tick) (pl' := pl) 4 (.int .i64 ((d.ops + 1 : Nat) : Int)) (by rw [ht]; rfl) (by rw [ht]) (by rw [ht]; exact h1.plan)
   have hK := (Kb.set (dall bd bm pl d ms) W pl 0 (.int .i64 (n : Int)) (.inl (.inr (.inr (.inl ⟨by rw [hpl]; rfl, rfl⟩))))).trans (Kb.set (dall bd bm pl d ms) _ bd 4 (.int .i64 ((d.ops + 1 : Nat) : Int)) (.inl (.inl rfl))) (fun _ h => .inl h)
   have hu : d.tick.used = d.used := by rw [ht]; rfl
   rw [← hu] at hP
   have HD := Lib.hid (HDO.out _ ⟨hP, hK, fun b hb => .inl (dall_same (by rw [ht, hpl]; exact fun _ => rfl) (fun m hm => ⟨m, hm, rfl, fun _ h => h⟩) b hb)⟩)
   clear hP hK hu ht h1 hp1
   generalize ((n + 1 : Nat) : Int) = N1 at *
   go_enter Tryz.func75, Tryz.ntmps75
   go_wp2_with fail
   refine HD.out.mono ?_
   rintro e w1 ⟨rfl, hq⟩
   go_wp2_with fail
   go_ret
   exact ⟨fun k hk => (by cases hk), fun _ => ⟨rfl, hq⟩⟩

theorem count_Sync {z bd bm pl : Nat} {W : World} {d : Dk} {ms : List FilM} (h : DkM z W bd bm pl d ms) (hok : d.Ok) (hsm : d.Small) (caps : Array Value) (Q : World → Prop)
  (hdo : ∀ w, DkS z W w bd bm pl d ms pl d.tick ms → Calls Tryz.prog 79 caps w fun e w' => e = .returned (.tuple #[]) ∧ Q w') :
  Calls Tryz.prog 75 #[.pointer (some ⟨bd, 0, none⟩), .func (.func 79) #[] caps] W fun e w' =>
   (∀ k, d.dead = some k → e = .returned (.int .i64 150) ∧ DkS z W w' bd bm pl d ms pl (d.lose k) (ms.map (FilM.lose k))) ∧ (d.dead = none → e = .returned (.int .i64 0) ∧ Q w') := by
 have k6 := h.str.blk.cell (i := 6) rfl
 have k4 := h.str.blk.cell (i := 4) rfl
 have t4 := h.str.blk.thaw 4
 have HH := Lib.hid h
 have HOK := Lib.hid hok
 have hw4 : IntKind.i64.wrap ((d.ops : Int) + 1) = ((d.ops + 1 : Nat) : Int) := by rw [IntWalk.i64_in _ (by have := hsm.cnt; omega)]; omega
 have HDO := Lib.hid hdo
 clear hdo
 rcases hpl : d.plan with _ | ⟨n, k⟩
 ·have hd : d.dead = none := by simp [Dk.dead, hpl]
  have ht : d.tick = { d with ops := d.ops + 1 } := by simp [Dk.tick, hpl]
  simp only [hd]
  rw [hpl] at k6
  simp only [planV] at k6
  have hP := h.put (u' := (d.used : Int)) (d' := d.tick) (pl' := pl) 4 (.int .i64 ((d.ops + 1 : Nat) : Int)) (by rw [ht]; rfl) (by rw [ht]) (by rw [ht]; exact h.plan)
  have hK := Kb.set (dall bd bm pl d ms) W bd 4 (.int .i64 ((d.ops + 1 : Nat) : Int)) (.inl (.inl rfl))
  have hu : d.tick.used = d.used := by rw [ht]; rfl
  rw [← hu] at hP
  have HD := Lib.hid (HDO.out _ ⟨hP, hK, fun b hb => .inl (dall_same (by rw [ht]; exact fun h => h) (fun m hm => ⟨m, hm, rfl, fun _ h => h⟩) b hb)⟩)
  clear hP hK hu ht
  go_enter Tryz.func75, Tryz.ntmps75
  go_wp2_with fail
  refine HD.out.mono ?_
  rintro e w1 ⟨rfl, hq⟩
  go_wp2_with fail
  go_ret
  exact ⟨fun k hk => (by cases hk), fun _ => ⟨rfl, hq⟩⟩
 ·have hp1 := (h.plan n k hpl).1
  have q0 := hp1.blk.cell (i := 0) rfl
  have q1 := hp1.blk.cell (i := 1) rfl
  have tq0 := hp1.blk.thaw 0
  have hn : n < 9223372036854775808 := hsm.plan n k hpl
  have hne : pl ≠ bd := hp1.ne h.str (by decide)
  rw [hpl] at k6
  simp only [planV] at k6
  rcases n with _ | n
  ·have hd : d.dead = some k := by simp [Dk.dead, hpl]
   have HL := Lib.hid (lose_any h hok hsm.cnt k)
   simp only [hd]
   clear hp1
   go_enter Tryz.func75, Tryz.ntmps75
   go_wp2_with fail
   refine HL.out.mono ?_
   rintro e w1 ⟨rfl, hq, hkb⟩
   go_wp2_with fail
   go_ret
   exact ⟨fun k1 hk => (by cases hk; exact ⟨rfl, DkS.of_lose hq hkb HH.out⟩), fun h => (by cases h)⟩
  ·have hd : d.dead = none := by simp [Dk.dead, hpl]
   have ht : d.tick = { d with plan := some (n, k), ops := d.ops + 1 } := by simp [Dk.tick, hpl]
   simp only [hd]
   have hwn : IntKind.i64.wrap (((n + 1 : Nat) : Int) - 1) = (n : Int) := by rw [IntWalk.i64_in _ (by omega)]; omega
   have hz0 : ¬ (((n + 1 : Nat) : Int) = 0) := by omega
   have h1 := h.putPlan (n' := n) hpl
   have hP := h1.put (u' := (d.used : Int)) (d' := d.tick) (pl' := pl) 4 (.int .i64 ((d.ops + 1 : Nat) : Int)) (by rw [ht]; rfl) (by rw [ht]) (by rw [ht]; exact h1.plan)
   have hK := (Kb.set (dall bd bm pl d ms) W pl 0 (.int .i64 (n : Int)) (.inl (.inr (.inr (.inl ⟨by rw [hpl]; rfl, rfl⟩))))).trans (Kb.set (dall bd bm pl d ms) _ bd 4 (.int .i64 ((d.ops + 1 : Nat) : Int)) (.inl (.inl rfl))) (fun _ h => .inl h)
   have hu : d.tick.used = d.used := by rw [ht]; rfl
   rw [← hu] at hP
   have HD := Lib.hid (HDO.out _ ⟨hP, hK, fun b hb => .inl (dall_same (by rw [ht, hpl]; exact fun _ => rfl) (fun m hm => ⟨m, hm, rfl, fun _ h => h⟩) b hb)⟩)
   clear hP hK hu ht h1 hp1
   generalize ((n + 1 : Nat) : Int) = N1 at *
   go_enter Tryz.func75, Tryz.ntmps75
   go_wp2_with fail
   refine HD.out.mono ?_
   rintro e w1 ⟨rfl, hq⟩
   go_wp2_with fail
   go_ret
   exact ⟨fun k hk => (by cases hk), fun _ => ⟨rfl, hq⟩⟩

theorem count_Cut {z bd bm pl : Nat} {W : World} {d : Dk} {ms : List FilM} (h : DkM z W bd bm pl d ms) (hok : d.Ok) (hsm : d.Small) (caps : Array Value) (Q : World → Prop)
  (hdo : ∀ w, DkS z W w bd bm pl d ms pl d.tick ms → Calls Tryz.prog 78 caps w fun e w' => e = .returned (.tuple #[]) ∧ Q w') :
  Calls Tryz.prog 75 #[.pointer (some ⟨bd, 0, none⟩), .func (.func 78) #[] caps] W fun e w' =>
   (∀ k, d.dead = some k → e = .returned (.int .i64 150) ∧ DkS z W w' bd bm pl d ms pl (d.lose k) (ms.map (FilM.lose k))) ∧ (d.dead = none → e = .returned (.int .i64 0) ∧ Q w') := by
 have k6 := h.str.blk.cell (i := 6) rfl
 have k4 := h.str.blk.cell (i := 4) rfl
 have t4 := h.str.blk.thaw 4
 have HH := Lib.hid h
 have HOK := Lib.hid hok
 have hw4 : IntKind.i64.wrap ((d.ops : Int) + 1) = ((d.ops + 1 : Nat) : Int) := by rw [IntWalk.i64_in _ (by have := hsm.cnt; omega)]; omega
 have HDO := Lib.hid hdo
 clear hdo
 rcases hpl : d.plan with _ | ⟨n, k⟩
 ·have hd : d.dead = none := by simp [Dk.dead, hpl]
  have ht : d.tick = { d with ops := d.ops + 1 } := by simp [Dk.tick, hpl]
  simp only [hd]
  rw [hpl] at k6
  simp only [planV] at k6
  have hP := h.put (u' := (d.used : Int)) (d' := d.tick) (pl' := pl) 4 (.int .i64 ((d.ops + 1 : Nat) : Int)) (by rw [ht]; rfl) (by rw [ht]) (by rw [ht]; exact h.plan)
  have hK := Kb.set (dall bd bm pl d ms) W bd 4 (.int .i64 ((d.ops + 1 : Nat) : Int)) (.inl (.inl rfl))
  have hu : d.tick.used = d.used := by rw [ht]; rfl
  rw [← hu] at hP
  have HD := Lib.hid (HDO.out _ ⟨hP, hK, fun b hb => .inl (dall_same (by rw [ht]; exact fun h => h) (fun m hm => ⟨m, hm, rfl, fun _ h => h⟩) b hb)⟩)
  clear hP hK hu ht
  go_enter Tryz.func75, Tryz.ntmps75
  go_wp2_with fail
  refine HD.out.mono ?_
  rintro e w1 ⟨rfl, hq⟩
  go_wp2_with fail
  go_ret
  exact ⟨fun k hk => (by cases hk), fun _ => ⟨rfl, hq⟩⟩
 ·have hp1 := (h.plan n k hpl).1
  have q0 := hp1.blk.cell (i := 0) rfl
  have q1 := hp1.blk.cell (i := 1) rfl
  have tq0 := hp1.blk.thaw 0
  have hn : n < 9223372036854775808 := hsm.plan n k hpl
  have hne : pl ≠ bd := hp1.ne h.str (by decide)
  rw [hpl] at k6
  simp only [planV] at k6
  rcases n with _ | n
  ·have hd : d.dead = some k := by simp [Dk.dead, hpl]
   have HL := Lib.hid (lose_any h hok hsm.cnt k)
   simp only [hd]
   clear hp1
   go_enter Tryz.func75, Tryz.ntmps75
   go_wp2_with fail
   refine HL.out.mono ?_
   rintro e w1 ⟨rfl, hq, hkb⟩
   go_wp2_with fail
   go_ret
   exact ⟨fun k1 hk => (by cases hk; exact ⟨rfl, DkS.of_lose hq hkb HH.out⟩), fun h => (by cases h)⟩
  ·have hd : d.dead = none := by simp [Dk.dead, hpl]
   have ht : d.tick = { d with plan := some (n, k), ops := d.ops + 1 } := by simp [Dk.tick, hpl]
   simp only [hd]
   have hwn : IntKind.i64.wrap (((n + 1 : Nat) : Int) - 1) = (n : Int) := by rw [IntWalk.i64_in _ (by omega)]; omega
   have hz0 : ¬ (((n + 1 : Nat) : Int) = 0) := by omega
   have h1 := h.putPlan (n' := n) hpl
   have hP := h1.put (u' := (d.used : Int)) (d' := d.tick) (pl' := pl) 4 (.int .i64 ((d.ops + 1 : Nat) : Int)) (by rw [ht]; rfl) (by rw [ht]) (by rw [ht]; exact h1.plan)
   have hK := (Kb.set (dall bd bm pl d ms) W pl 0 (.int .i64 (n : Int)) (.inl (.inr (.inr (.inl ⟨by rw [hpl]; rfl, rfl⟩))))).trans (Kb.set (dall bd bm pl d ms) _ bd 4 (.int .i64 ((d.ops + 1 : Nat) : Int)) (.inl (.inl rfl))) (fun _ h => .inl h)
   have hu : d.tick.used = d.used := by rw [ht]; rfl
   rw [← hu] at hP
   have HD := Lib.hid (HDO.out _ ⟨hP, hK, fun b hb => .inl (dall_same (by rw [ht, hpl]; exact fun _ => rfl) (fun m hm => ⟨m, hm, rfl, fun _ h => h⟩) b hb)⟩)
   clear hP hK hu ht h1 hp1
   generalize ((n + 1 : Nat) : Int) = N1 at *
   go_enter Tryz.func75, Tryz.ntmps75
   go_wp2_with fail
   refine HD.out.mono ?_
   rintro e w1 ⟨rfl, hq⟩
   go_wp2_with fail
   go_ret
   exact ⟨fun k hk => (by cases hk), fun _ => ⟨rfl, hq⟩⟩

theorem count_Drop {z bd bm pl : Nat} {W : World} {d : Dk} {ms : List FilM} (h : DkM z W bd bm pl d ms) (hok : d.Ok) (hsm : d.Small) (caps : Array Value) (Q : World → Prop)
  (hdo : ∀ w, DkS z W w bd bm pl d ms pl d.tick ms → Calls Tryz.prog 92 caps w fun e w' => e = .returned (.tuple #[]) ∧ Q w') :
  Calls Tryz.prog 75 #[.pointer (some ⟨bd, 0, none⟩), .func (.func 92) #[] caps] W fun e w' =>
   (∀ k, d.dead = some k → e = .returned (.int .i64 150) ∧ DkS z W w' bd bm pl d ms pl (d.lose k) (ms.map (FilM.lose k))) ∧ (d.dead = none → e = .returned (.int .i64 0) ∧ Q w') := by
 have k6 := h.str.blk.cell (i := 6) rfl
 have k4 := h.str.blk.cell (i := 4) rfl
 have t4 := h.str.blk.thaw 4
 have HH := Lib.hid h
 have HOK := Lib.hid hok
 have hw4 : IntKind.i64.wrap ((d.ops : Int) + 1) = ((d.ops + 1 : Nat) : Int) := by rw [IntWalk.i64_in _ (by have := hsm.cnt; omega)]; omega
 have HDO := Lib.hid hdo
 clear hdo
 rcases hpl : d.plan with _ | ⟨n, k⟩
 ·have hd : d.dead = none := by simp [Dk.dead, hpl]
  have ht : d.tick = { d with ops := d.ops + 1 } := by simp [Dk.tick, hpl]
  simp only [hd]
  rw [hpl] at k6
  simp only [planV] at k6
  have hP := h.put (u' := (d.used : Int)) (d' := d.tick) (pl' := pl) 4 (.int .i64 ((d.ops + 1 : Nat) : Int)) (by rw [ht]; rfl) (by rw [ht]) (by rw [ht]; exact h.plan)
  have hK := Kb.set (dall bd bm pl d ms) W bd 4 (.int .i64 ((d.ops + 1 : Nat) : Int)) (.inl (.inl rfl))
  have hu : d.tick.used = d.used := by rw [ht]; rfl
  rw [← hu] at hP
  have HD := Lib.hid (HDO.out _ ⟨hP, hK, fun b hb => .inl (dall_same (by rw [ht]; exact fun h => h) (fun m hm => ⟨m, hm, rfl, fun _ h => h⟩) b hb)⟩)
  clear hP hK hu ht
  go_enter Tryz.func75, Tryz.ntmps75
  go_wp2_with fail
  refine HD.out.mono ?_
  rintro e w1 ⟨rfl, hq⟩
  go_wp2_with fail
  go_ret
  exact ⟨fun k hk => (by cases hk), fun _ => ⟨rfl, hq⟩⟩
 ·have hp1 := (h.plan n k hpl).1
  have q0 := hp1.blk.cell (i := 0) rfl
  have q1 := hp1.blk.cell (i := 1) rfl
  have tq0 := hp1.blk.thaw 0
  have hn : n < 9223372036854775808 := hsm.plan n k hpl
  have hne : pl ≠ bd := hp1.ne h.str (by decide)
  rw [hpl] at k6
  simp only [planV] at k6
  rcases n with _ | n
  ·have hd : d.dead = some k := by simp [Dk.dead, hpl]
   have HL := Lib.hid (lose_any h hok hsm.cnt k)
   simp only [hd]
   clear hp1
   go_enter Tryz.func75, Tryz.ntmps75
   go_wp2_with fail
   refine HL.out.mono ?_
   rintro e w1 ⟨rfl, hq, hkb⟩
   go_wp2_with fail
   go_ret
   exact ⟨fun k1 hk => (by cases hk; exact ⟨rfl, DkS.of_lose hq hkb HH.out⟩), fun h => (by cases h)⟩
  ·have hd : d.dead = none := by simp [Dk.dead, hpl]
   have ht : d.tick = { d with plan := some (n, k), ops := d.ops + 1 } := by simp [Dk.tick, hpl]
   simp only [hd]
   have hwn : IntKind.i64.wrap (((n + 1 : Nat) : Int) - 1) = (n : Int) := by rw [IntWalk.i64_in _ (by omega)]; omega
   have hz0 : ¬ (((n + 1 : Nat) : Int) = 0) := by omega
   have h1 := h.putPlan (n' := n) hpl
   have hP := h1.put (u' := (d.used : Int)) (d' := d.tick) (pl' := pl) 4 (.int .i64 ((d.ops + 1 : Nat) : Int)) (by rw [ht]; rfl) (by rw [ht]) (by rw [ht]; exact h1.plan)
   have hK := (Kb.set (dall bd bm pl d ms) W pl 0 (.int .i64 (n : Int)) (.inl (.inr (.inr (.inl ⟨by rw [hpl]; rfl, rfl⟩))))).trans (Kb.set (dall bd bm pl d ms) _ bd 4 (.int .i64 ((d.ops + 1 : Nat) : Int)) (.inl (.inl rfl))) (fun _ h => .inl h)
   have hu : d.tick.used = d.used := by rw [ht]; rfl
   rw [← hu] at hP
   have HD := Lib.hid (HDO.out _ ⟨hP, hK, fun b hb => .inl (dall_same (by rw [ht, hpl]; exact fun _ => rfl) (fun m hm => ⟨m, hm, rfl, fun _ h => h⟩) b hb)⟩)
   clear hP hK hu ht h1 hp1
   generalize ((n + 1 : Nat) : Int) = N1 at *
   go_enter Tryz.func75, Tryz.ntmps75
   go_wp2_with fail
   refine HD.out.mono ?_
   rintro e w1 ⟨rfl, hq⟩
   go_wp2_with fail
   go_ret
   exact ⟨fun k hk => (by cases hk), fun _ => ⟨rfl, hq⟩⟩
end Go.Proofs.YtagghghoimpofaaGreatDoor
