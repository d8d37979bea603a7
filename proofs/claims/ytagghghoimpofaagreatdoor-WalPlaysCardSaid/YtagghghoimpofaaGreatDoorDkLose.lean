/-
 Layer 15: the power fails: what a failure leaves of all files.
-/
import Derived.Test.YtagghghoimpofaaGreatDoorDkMem
import Derived.Sort.OwnSorted
import Derived.Sort.KeysCollected
import Derived.Test.YtagghghoimpofaaGreatDoorMonoLast
namespace Go.Proofs.YtagghghoimpofaaGreatDoor
open Go Go.RowKit Mono
open Go.Maps (Keyed has size)
set_option linter.unusedVariables false
set_option linter.unusedSimpArgs false

theorem lsSt_used (keep : Int) (left : Lit → Bool) : ∀ (ms : List FilM), usedF ((lsSt keep left ms).map FilM.fil) ≤ usedF (ms.map FilM.fil)
 | [] => Nat.le_refl _
 | m :: r => by
  have ih := lsSt_used keep left r
  unfold usedF lsSt at *
  simp only [List.map_cons, List.sum_cons, List.map_map] at *
  have : (if left (.string m.name) = true then m else m.lose keep).fil.b.length ≤ m.fil.b.length := by
   split
   ·exact Nat.le_refl _
   ·rw [FilM.lose_fil]
    simp only [Fil.lose, List.length_take]
    omega
  omega
theorem _root_.Go.World.ranges.kb_of {w w' : World} {k : TypeId} {P : Program} {H : Type} {R : Value → Option (DataW H × List MemPlace)} {b r n cnt : Nat} {D : DataW H} {left : Lit → Bool} {fp : Nat → Prop} (h : w.ranges P k R b r n D left cnt) (hk : Kb fp w w') (hb : ¬ fp b) (hr : ¬ fp r) : w'.ranges P k R b r n D left cnt := by
 have h1 := h.owns.lt
 have h2 := h.lt
 obtain ⟨es, clock, since, seen, c0, hb', F, hs, hD, hr', rest⟩ := h
 exact ⟨es, clock, since, seen, c0, (hk.block b h1 hb).trans hb', F, hs, hD, (hk.block r h2 hr).trans hr', rest⟩
theorem _root_.Go.World.ranges.kb_ext {w w' : World} {k : TypeId} {P : Program} {H : Type} {R : Value → Option (DataW H × List MemPlace)} {b r n cnt : Nat} {D : DataW H} {left : Lit → Bool} (h : w.ranges P k R b r n D left cnt) (he : Ext w w') : w'.ranges P k R b r n D left cnt :=
 h.kb_of (Kb.of_ext (fp := fun _ => False) he) (fun h => h) (fun h => h)
theorem map_ne2 {u : Int} {z bd bm pl : Nat} {W : World} {d : Dk} {ms : List FilM} (h : DkU u z W bd bm pl d ms) : ¬ bm = bd := by
 obtain ⟨n, D, ho, hm⟩ := h.map
 exact fun e => map_ne h.str ho e.symm
theorem map_ne3 {u : Int} {z bd bm pl : Nat} {W : World} {d : Dk} {ms : List FilM} (h : DkU u z W bd bm pl d ms) {m : FilM} (hm : m ∈ ms) : ¬ bm = m.blk := by
 obtain ⟨n, D, ho, _⟩ := h.map
 exact fun e => map_ne (h.files m hm).1 ho e.symm
theorem strV_inj {x y : List UInt8} (h : strV x = strV y) : x = y := by simpa [strV] using h
def ptrM (c : Option Nat) : Value := match c with
 | some b => .pointer (some ⟨b, 0, none⟩)
 | none => .pointer none
theorem ptrR_shape {v : Value} {y : DataW Unit × List MemPlace} (h : ptrR v = some y) : ∃ c, v = ptrM c := by
 unfold ptrR at h
 split at h
 ·exact ⟨some _, rfl⟩
 ·exact ⟨none, rfl⟩
 ·cases h
theorem keyS_shape {key : Value} {kl : Lit} (h : keyOf Tryz.prog 9 key = some kl) : ∃ x : List UInt8, key = strV x ∧ kl = .string x ∧ x.length ≤ maxLen := by
 obtain ⟨x, hx, hk, hl⟩ := Go.Maps.keyOf_str Tryz.underlying9 h
 exact ⟨x, hx, hk, hl⟩
/-- What holds while files are cut. -/
structure LsSt (W : World) (z bd bm pl : Nat) (d : Dk) (ms : List FilM) (keep : Int) (r n : Nat) (D : DataW Unit) (left : Lit → Bool) (cnt : Nat) (W' : World) : Prop where
 rg : W'.ranges Tryz.prog 9 ptrR bm r n D left cnt
 dk : DkM z W' bd bm pl { d with fs := (lsSt keep left ms).map FilM.fil } (lsSt keep left ms)
 kb : Kb (dfp bd bm pl d ms) W W'
 has : ∀ kl, left kl = true → has D kl = true

set_option maxRecDepth 100000 in
set_option maxHeartbeats 2000000 in
theorem lose_any {z bd bm pl : Nat} {W : World} {d : Dk} {ms : List FilM} (h : DkM z W bd bm pl d ms) (hok : d.Ok) (hsm : d.ops + d.fails ≤ 1000000000) (keep : Int) :
  Calls Tryz.prog 91 #[.pointer (some ⟨bd, 0, none⟩), .int .i64 keep] W fun e w' => e = .returned (.tuple #[]) ∧ DkM z w' bd bm pl (d.lose keep) (ms.map (FilM.lose keep)) ∧ Kb (dfp bd bm pl d ms) W w' := by
 obtain ⟨n, D, hown, hmap⟩ := h.map
 have k1 := h.str.blk.cell (i := 1) rfl
 have HH := Lib.hid h
 have HOK := Lib.hid hok
 have HMAP := Lib.hid hmap
 clear hmap
 go_enter Tryz.func91, Tryz.ntmps91
 go_wp2_with (first
  | (at_range; refine wpList_range_own _ rfl _ 39 rfl 9 102 keyS Tryz.underlying39 ptrR bm n D rfl hown ?_; intro w0 hrg0 hg0 hs0)
  | go_in)
 go_frame
 clear hs0 k1
 go_loopw [5] (fun _ wr => ∃ (left : Lit → Bool) (cnt : Nat), LsSt W z bd bm pl d ms keep W.heap.size n D left cnt wr) (fun _ wr => wr.rangeLeft bm W.heap.size)
 case atStart =>
  have he : Ext W w0 := ⟨hg0.os, hg0.tape, hg0.output, hg0.size, fun k hk => hg0.block k hk (by simp)⟩
  refine ⟨_, _, hrg0, ?_, Kb.of_ext he, fun kl hk => hk⟩
  rw [lsSt_start HMAP.out]
  have := HH.out.ext he
  rw [HH.out.fs]
  exact this
 case round =>
  obtain ⟨left, cnt, HL0⟩ := hrel
  have HL := Lib.hid HL0
  have hrg := HL0.rg
  clear HL0
  go_wp2_with (first
   | (at_next; refine wpList_next_ranges _ rfl _ rfl 9 keyS ptrR strV ptrM (fun key kl hk => by obtain ⟨x, hx, _⟩ := keyS_shape hk; exact ⟨x, hx⟩) (fun v y hv => ptrR_shape hv) bm W.heap.size n D left cnt rfl hrg ?_ ?_)
   | go_in)
  ·intro hc0 hl0
   have hD := HL.out.dk
   rw [lsSt_end hl0] at hD
   have t2 := hD.str.blk.thaw 2
   have t5 := hD.str.blk.thaw 5
   have t6 := hD.str.blk.thaw 6
   have k5 := hD.str.blk.cell (i := 5) rfl
   have k2 := hD.str.blk.cell (i := 2) rfl
   have k6 := hD.str.blk.cell (i := 6) rfl
   have hw : IntKind.i64.wrap ((d.fails : Int) + 1) = (d.fails : Int) + 1 := by rw [IntWalk.i64_in _ (by omega)]
   have hfs : (ms.map (FilM.lose keep)).map FilM.fil = (d.lose keep).fs := by
    show _ = d.fs.map (Fil.lose keep)
    rw [← HH.out.fs]
    simp [FilM.lose_fil]
   rw [hfs] at hD
   have h1 := hD.put (u' := ((d.lose keep).used : Int)) (d' := { d with fs := (d.lose keep).fs, on := false }) (pl' := pl) 2 (.bool false) rfl rfl hD.plan
   have h2 := h1.put (u' := ((d.lose keep).used : Int)) (d' := { d with fs := (d.lose keep).fs, on := false, plan := none }) (pl' := pl) 6 (.pointer none) rfl rfl (fun _ _ hp => by cases hp)
   have h3 := Lib.hid (h2.put (u' := ((d.lose keep).used : Int)) (d' := d.lose keep) (pl' := pl) 5 (.int .i64 ((d.fails : Int) + 1)) rfl rfl (fun _ _ hp => by cases hp))
   have HK := Lib.hid (((HL.out.kb.trans (Kb.set (dfp bd bm pl d ms) _ bd 2 (.bool false) (.inl rfl)) (fun _ h => .inl h)).trans (Kb.set (dfp bd bm pl d ms) _ bd 6 (.pointer none) (.inl rfl)) (fun _ h => .inl h)).trans (Kb.set (dfp bd bm pl d ms) _ bd 5 (.int .i64 ((d.fails : Int) + 1)) (.inl rfl)) (fun _ h => .inl h))
   clear hD h1 h2 hrg hfs
   go_wp2_with fail
   go_end0
   exact ⟨rfl, h3.out, HK.out⟩
  ·intro x c kl yd yp w1 cnt1 hkey hlk hv hat hrg1 hlt hg1 hs1 hen
   obtain ⟨x', ex, rfl, -⟩ := keyS_shape hkey
   obtain rfl : x = x' := strV_inj ex
   have hin := HL.out.has _ hlk
   rw [HMAP.out.has_] at hin
   obtain ⟨m, hm, hmn⟩ := List.any_eq_true.1 hin
   obtain rfl : m.name = x := by simpa using hmn
   have hat' := hat .nil
   rw [HMAP.out.at_ m hm .nil] at hat'
   obtain rfl : c = some m.blk := by
    rcases c with _ | b
    ·have : ptrR (.pointer none) = some (yd, yp) := hv
     rw [← hat'] at this
     cases this
    ·have : ptrR (.pointer (some ⟨b, 0, none⟩)) = some (yd, yp) := hv
     rw [← hat', ptrR_mk] at this
     simp [ptrD] at this
     rw [show b = m.blk from by omega]
   simp only [show ptrM (some m.blk) = .pointer (some ⟨m.blk, 0, none⟩) from rfl] at hen ⊢
   clear hat hat' hin hmn hkey ex hv hs1
   obtain ⟨l, r, el, er⟩ := lsSt_step (keep := keep) hm (names_apart HH.out HOK.out) hlk
   obtain ⟨hi1, hi2⟩ := HL.out.dk.iter hrg
   have hkb1 := grown_kb hg1
   have hD1 := HL.out.dk.kb hkb1 (fun j hj e => hi1 j hj e) (fun m hm j hj e => hi2 m hm j hj e)
   rw [el] at hD1
   have HB1 := Lib.hid (HL.out.kb.trans hkb1 (fun b hb => .inr (by rw [hb]; exact Nat.le_refl _)))
   have hsure : m.sure ≤ m.b.length := HOK.out.sure m.fil (by rw [← HH.out.fs]; exact List.mem_map.2 ⟨m, hm, rfl⟩)
   have hlen : m.b.length ≤ 1048576 := HOK.out.len m.fil (by rw [← HH.out.fs]; exact List.mem_map.2 ⟨m, hm, rfl⟩)
   obtain ⟨N, hN⟩ : ∃ N, N = keepN keep m.fil := ⟨_, rfl⟩
   have hN1 : (N : Int) = (m.sure : Int) + max 0 (min keep ((m.b.length : Int) - (m.sure : Int))) := by
    rw [hN]
    unfold keepN FilM.fil
    dsimp only
    omega
   have hN2 : N ≤ m.b.length := by omega
   have HN1 := Lib.hid hN1
   clear hN1
   have hlose : m.lose keep = m.cut N N := by rw [hN]; rfl
   obtain ⟨lf, hlf⟩ : ∃ lf, lf = (l ++ m :: r).map FilM.fil := ⟨_, rfl⟩
   have hused : usedF lf ≤ 1073741824 := by
    rw [hlf, ← el]
    refine Nat.le_trans (lsSt_used keep left ms) ?_
    rw [HH.out.fs]
    exact Nat.le_trans HOK.out.used HOK.out.room
   have hlu : m.b.length ≤ usedF lf := by
    rw [hlf, List.map_append, List.map_cons, used_split]
    show m.b.length ≤ _ + m.b.length + _
    omega
   obtain ⟨hfb, hfz⟩ := hD1.files m (by simp)
   have bf := hfb.blk
   have bd0 := hD1.str.blk
   obtain ⟨A, c, hmv, g1, g2, g3, g4⟩ := (hD1.bytes m (by simp)).bs.open_
   rw [hmv] at bf
   have HDD := Lib.hid hD1
   have HEL := Lib.hid el
   have HER := Lib.hid er
   have HLO := Lib.hid hlose
   have HRG := Lib.hid hrg1
   have HLF := Lib.hid hlf
   have HHAS := Lib.hid HL.out.has
   have HM := Lib.hid hmv
   have HF1 := Lib.hid hfb
   have HRG0 := Lib.hid hrg
   clear hD1 el er hlose hrg1 hlf hrg HL hN hmv hown hrg0 hg0 hi1 hi2 hkb1 hfb
   go_wp2_with fail
   refine wp_region_mono (by kernel_rfl) (by kernel_rfl) ?_
   refine tele_move rfl (.inl rfl) rfl (isV (.pointer (some ⟨m.blk, 0, none⟩))) (fun ρ w' h => h) ?_
   refine tele_val rfl (.pointer (some ⟨m.blk, 0, none⟩)) (fun _ _ _ => rfl) ?_ ?_
   ·rintro ρ w' he ⟨h16, -⟩
    have e16 : ρ 16 = (.pointer (some ⟨m.blk, 0, none⟩)) := h16
    simp [execOp, evR, e16, go_sem]
   refine tele_val rfl (.pointer (some ⟨m.blk, 1, none⟩)) (fun _ _ _ => rfl) ?_ ?_
   ·rintro ρ w' he ⟨h17, -⟩
    have e17 : ρ 17 = (.pointer (some ⟨m.blk, 0, none⟩)) := h17
    simp [execOp, evR, e17, go_sem]
   refine tele_val rfl (.int .i64 (m.sure : Int)) (fun _ _ _ => rfl) ?_ ?_
   ·rintro ρ w' he ⟨h18, -⟩
    have e18 : ρ 18 = (.pointer (some ⟨m.blk, 1, none⟩)) := h18
    have c := (bf.ext he).cell (i := 1) rfl
    simp [execOp, evR, e18, c, go_sem]
   refine tele_move rfl (.inl rfl) rfl (isV (.int .i64 keep)) (fun ρ w' h => h) ?_
   refine tele_move rfl (.inl rfl) rfl (isV (.pointer (some ⟨m.blk, 0, none⟩))) (fun ρ w' h => h) ?_
   refine tele_val rfl (.pointer (some ⟨m.blk, 0, none⟩)) (fun _ _ _ => rfl) ?_ ?_
   ·rintro ρ w' he ⟨h21, -⟩
    have e21 : ρ 21 = (.pointer (some ⟨m.blk, 0, none⟩)) := h21
    simp [execOp, evR, e21, go_sem]
   refine tele_val rfl (.pointer (some ⟨m.blk, 0, none⟩)) (fun _ _ _ => rfl) ?_ ?_
   ·rintro ρ w' he ⟨h22, -⟩
    have e22 : ρ 22 = (.pointer (some ⟨m.blk, 0, none⟩)) := h22
    simp [execOp, evR, e22, go_sem]
   refine tele_val rfl (.slice A m.b.length c) (fun _ _ _ => rfl) ?_ ?_
   ·rintro ρ w' he ⟨h23, -⟩
    have e23 : ρ 23 = (.pointer (some ⟨m.blk, 0, none⟩)) := h23
    have c := (bf.ext he).cell (i := 0) rfl
    simp [execOp, evR, e23, c, go_sem]
   refine tele_val rfl (.int .i64 (m.b.length : Int)) (fun _ _ _ => rfl) ?_ ?_
   ·rintro ρ w' he ⟨h24, -⟩
    have e24 : ρ 24 = (.slice A m.b.length c) := h24
    simp [execOp, evR, e24, go_sem]
   refine tele_move rfl (.inl rfl) rfl (isV (.pointer (some ⟨m.blk, 0, none⟩))) (fun ρ w' h => h) ?_
   refine tele_val rfl (.pointer (some ⟨m.blk, 0, none⟩)) (fun _ _ _ => rfl) ?_ ?_
   ·rintro ρ w' he ⟨h26, -⟩
    have e26 : ρ 26 = (.pointer (some ⟨m.blk, 0, none⟩)) := h26
    simp [execOp, evR, e26, go_sem]
   refine tele_val rfl (.pointer (some ⟨m.blk, 1, none⟩)) (fun _ _ _ => rfl) ?_ ?_
   ·rintro ρ w' he ⟨h27, -⟩
    have e27 : ρ 27 = (.pointer (some ⟨m.blk, 0, none⟩)) := h27
    simp [execOp, evR, e27, go_sem]
   refine tele_val rfl (.int .i64 (m.sure : Int)) (fun _ _ _ => rfl) ?_ ?_
   ·rintro ρ w' he ⟨h28, -⟩
    have e28 : ρ 28 = (.pointer (some ⟨m.blk, 1, none⟩)) := h28
    have c := (bf.ext he).cell (i := 1) rfl
    simp [execOp, evR, e28, c, go_sem]
   refine tele_val rfl (.int .i64 ((m.b.length : Int) - (m.sure : Int))) (fun _ _ _ => rfl) ?_ ?_
   ·rintro ρ w' he ⟨h25, h29, -⟩
    have e25 : ρ 25 = (.int .i64 (m.b.length : Int)) := h25
    have e29 : ρ 29 = (.int .i64 (m.sure : Int)) := h29
    have hw : IntKind.i64.wrap ((m.b.length : Int) - (m.sure : Int)) = (m.b.length : Int) - (m.sure : Int) := by rw [IntWalk.i64_in _ (by omega)]
    simp [execOp, evR, e25, e29, hw, go_sem]
   refine tele_val rfl (.int .i64 (min keep ((m.b.length : Int) - (m.sure : Int)))) (fun _ _ _ => rfl) ?_ ?_
   ·rintro ρ w' he ⟨h20, h30, -⟩
    have e20 : ρ 20 = (.int .i64 keep) := h20
    have e30 : ρ 30 = (.int .i64 ((m.b.length : Int) - (m.sure : Int))) := h30
    have hm : (if (m.b.length : Int) - (m.sure : Int) < keep then (m.b.length : Int) - (m.sure : Int) else keep) = min keep ((m.b.length : Int) - (m.sure : Int)) := by split <;> omega
    simp [execOp, resolve, invoke, builtin, evR, e20, e30, run_min_int2, hm, go_sem]
   refine tele_val rfl (.int .i64 (max 0 (min keep ((m.b.length : Int) - (m.sure : Int))))) (fun _ _ _ => rfl) ?_ ?_
   ·rintro ρ w' he ⟨h31, -⟩
    have e31 : ρ 31 = (.int .i64 (min keep ((m.b.length : Int) - (m.sure : Int)))) := h31
    have hm : ∀ x : Int, (if x > 0 then x else 0) = max 0 x := by intro x; split <;> omega
    simp [execOp, resolve, invoke, builtin, evR, e31, run_max_int2, hm, go_sem]
   refine tele_val rfl (.int .i64 (N : Int)) (fun _ _ _ => rfl) ?_ ?_
   ·rintro ρ w' he ⟨h19, h32, -⟩
    have e19 : ρ 19 = (.int .i64 (m.sure : Int)) := h19
    have e32 : ρ 32 = (.int .i64 (max 0 (min keep ((m.b.length : Int) - (m.sure : Int))))) := h32
    have hw : IntKind.i64.wrap ((m.sure : Int) + max 0 (min keep ((m.b.length : Int) - (m.sure : Int)))) = (N : Int) := by rw [IntWalk.i64_in _ (by omega)]; exact HN1.out.symm
    simp [execOp, evR, e19, e32, hw, go_sem]
   refine tele_move rfl (.inr rfl) rfl (isV (.int .i64 (N : Int))) (fun ρ w' h => h) ?_
   refine tele_nil ?_
   rintro ρ w' hext ⟨f6, f33, f32, f31, f30, f29, f28, f27, f26, f25, f24, f23, f22, f21, f20, f19, f18, f17, f16, -⟩
   replace f16 : ρ 16 = (.pointer (some ⟨m.blk, 0, none⟩)) := f16
   replace f17 : ρ 17 = (.pointer (some ⟨m.blk, 0, none⟩)) := f17
   replace f18 : ρ 18 = (.pointer (some ⟨m.blk, 1, none⟩)) := f18
   replace f19 : ρ 19 = (.int .i64 (m.sure : Int)) := f19
   replace f20 : ρ 20 = (.int .i64 keep) := f20
   replace f21 : ρ 21 = (.pointer (some ⟨m.blk, 0, none⟩)) := f21
   replace f22 : ρ 22 = (.pointer (some ⟨m.blk, 0, none⟩)) := f22
   replace f23 : ρ 23 = (.pointer (some ⟨m.blk, 0, none⟩)) := f23
   replace f24 : ρ 24 = (.slice A m.b.length c) := f24
   replace f25 : ρ 25 = (.int .i64 (m.b.length : Int)) := f25
   replace f26 : ρ 26 = (.pointer (some ⟨m.blk, 0, none⟩)) := f26
   replace f27 : ρ 27 = (.pointer (some ⟨m.blk, 0, none⟩)) := f27
   replace f28 : ρ 28 = (.pointer (some ⟨m.blk, 1, none⟩)) := f28
   replace f29 : ρ 29 = (.int .i64 (m.sure : Int)) := f29
   replace f30 : ρ 30 = (.int .i64 ((m.b.length : Int) - (m.sure : Int))) := f30
   replace f31 : ρ 31 = (.int .i64 (min keep ((m.b.length : Int) - (m.sure : Int)))) := f31
   replace f32 : ρ 32 = (.int .i64 (max 0 (min keep ((m.b.length : Int) - (m.sure : Int))))) := f32
   replace f33 : ρ 33 = (.int .i64 (N : Int)) := f33
   replace f6 : ρ 6 = (.int .i64 (N : Int)) := f6
   simp only [puts, Act.put, List.setIfInBounds_toArray, List.set_cons_zero, List.set_cons_succ]
   rw [f6]
   have hx3 := hext
   have bf1 := bf.ext hext
   have bd1 := bd0.ext hext
   rw [← HLF.out] at bd1
   go_wp2_with fail
   refine wp_region_last_lit (by kernel_rfl) rfl (by kernel_rfl) (by kernel_rfl) ?_
   refine tele_move rfl (.inl rfl) rfl (isV (.pointer (some ⟨bd, 0, none⟩))) (fun ρ w' h => h) ?_
   refine tele_val rfl (.pointer (some ⟨bd, 0, none⟩)) (fun _ _ _ => rfl) ?_ ?_
   ·rintro ρ w' he ⟨h34, -⟩
    have e34 : ρ 34 = (.pointer (some ⟨bd, 0, none⟩)) := h34
    simp [execOp, evR, e34, go_sem]
   refine tele_val rfl (.pointer (some ⟨bd, 3, none⟩)) (fun _ _ _ => rfl) ?_ ?_
   ·rintro ρ w' he ⟨h35, -⟩
    have e35 : ρ 35 = (.pointer (some ⟨bd, 0, none⟩)) := h35
    simp [execOp, evR, e35, go_sem]
   refine tele_val rfl (.int .i64 (usedF lf : Int)) (fun _ _ _ => rfl) ?_ ?_
   ·rintro ρ w' he ⟨h36, -⟩
    have e36 : ρ 36 = (.pointer (some ⟨bd, 3, none⟩)) := h36
    have c := (bd1.ext he).cell (i := 3) rfl
    simp [execOp, evR, e36, c, go_sem]
    rfl
   refine tele_move rfl (.inl rfl) rfl (isV (.pointer (some ⟨m.blk, 0, none⟩))) (fun ρ w' h => h) ?_
   refine tele_val rfl (.pointer (some ⟨m.blk, 0, none⟩)) (fun _ _ _ => rfl) ?_ ?_
   ·rintro ρ w' he ⟨h38, -⟩
    have e38 : ρ 38 = (.pointer (some ⟨m.blk, 0, none⟩)) := h38
    simp [execOp, evR, e38, go_sem]
   refine tele_val rfl (.pointer (some ⟨m.blk, 0, none⟩)) (fun _ _ _ => rfl) ?_ ?_
   ·rintro ρ w' he ⟨h39, -⟩
    have e39 : ρ 39 = (.pointer (some ⟨m.blk, 0, none⟩)) := h39
    simp [execOp, evR, e39, go_sem]
   refine tele_val rfl (.slice A m.b.length c) (fun _ _ _ => rfl) ?_ ?_
   ·rintro ρ w' he ⟨h40, -⟩
    have e40 : ρ 40 = (.pointer (some ⟨m.blk, 0, none⟩)) := h40
    have c := (bf1.ext he).cell (i := 0) rfl
    simp [execOp, evR, e40, c, go_sem]
   refine tele_val rfl (.int .i64 (m.b.length : Int)) (fun _ _ _ => rfl) ?_ ?_
   ·rintro ρ w' he ⟨h41, -⟩
    have e41 : ρ 41 = (.slice A m.b.length c) := h41
    simp [execOp, evR, e41, go_sem]
   refine tele_move rfl (.inl rfl) rfl (isV (.int .i64 (N : Int))) (fun ρ w' h => h) ?_
   refine tele_val rfl (.int .i64 ((m.b.length : Int) - (N : Int))) (fun _ _ _ => rfl) ?_ ?_
   ·rintro ρ w' he ⟨h42, h43, -⟩
    have e42 : ρ 42 = (.int .i64 (m.b.length : Int)) := h42
    have e43 : ρ 43 = (.int .i64 (N : Int)) := h43
    have hw : IntKind.i64.wrap ((m.b.length : Int) - (N : Int)) = (m.b.length : Int) - (N : Int) := by rw [IntWalk.i64_in _ (by omega)]
    simp [execOp, evR, e42, e43, hw, go_sem]
   refine tele_val rfl (.int .i64 ((usedF lf : Int) - ((m.b.length : Int) - (N : Int)))) (fun _ _ _ => rfl) ?_ ?_
   ·rintro ρ w' he ⟨h37, h44, -⟩
    have e37 : ρ 37 = (.int .i64 (usedF lf : Int)) := h37
    have e44 : ρ 44 = (.int .i64 ((m.b.length : Int) - (N : Int))) := h44
    have hw : IntKind.i64.wrap ((usedF lf : Int) - ((m.b.length : Int) - (N : Int))) = (usedF lf : Int) - ((m.b.length : Int) - (N : Int)) := by rw [IntWalk.i64_in _ (by omega)]
    simp [execOp, evR, e37, e44, hw, go_sem]
   refine tele_val rfl (.pointer (some ⟨bd, 0, none⟩)) (fun _ _ _ => rfl) ?_ ?_
   ·rintro ρ w' he ⟨h34, -⟩
    have e34 : ρ 34 = (.pointer (some ⟨bd, 0, none⟩)) := h34
    simp [execOp, evR, e34, go_sem]
   refine tele_val rfl (.pointer (some ⟨bd, 3, none⟩)) (fun _ _ _ => rfl) ?_ ?_
   ·rintro ρ w' he ⟨h46, -⟩
    have e46 : ρ 46 = (.pointer (some ⟨bd, 0, none⟩)) := h46
    simp [execOp, evR, e46, go_sem]
   refine tele_nil ?_
   rintro ρ w' hext ⟨f47, f46, f45, f44, f43, f42, f41, f40, f39, f38, f37, f36, f35, f34, -⟩
   replace f34 : ρ 34 = (.pointer (some ⟨bd, 0, none⟩)) := f34
   replace f35 : ρ 35 = (.pointer (some ⟨bd, 0, none⟩)) := f35
   replace f36 : ρ 36 = (.pointer (some ⟨bd, 3, none⟩)) := f36
   replace f37 : ρ 37 = (.int .i64 (usedF lf : Int)) := f37
   replace f38 : ρ 38 = (.pointer (some ⟨m.blk, 0, none⟩)) := f38
   replace f39 : ρ 39 = (.pointer (some ⟨m.blk, 0, none⟩)) := f39
   replace f40 : ρ 40 = (.pointer (some ⟨m.blk, 0, none⟩)) := f40
   replace f41 : ρ 41 = (.slice A m.b.length c) := f41
   replace f42 : ρ 42 = (.int .i64 (m.b.length : Int)) := f42
   replace f43 : ρ 43 = (.int .i64 (N : Int)) := f43
   replace f44 : ρ 44 = (.int .i64 ((m.b.length : Int) - (N : Int))) := f44
   replace f45 : ρ 45 = (.int .i64 ((usedF lf : Int) - ((m.b.length : Int) - (N : Int)))) := f45
   replace f46 : ρ 46 = (.pointer (some ⟨bd, 0, none⟩)) := f46
   replace f47 : ρ 47 = (.pointer (some ⟨bd, 3, none⟩)) := f47
   simp only [puts, Act.put, List.setIfInBounds_toArray, List.set_cons_zero, List.set_cons_succ]
   have HD3 := (HDD.out.ext hx3).ext hext
   have k3 := HD3.str.blk.cell (i := 3) rfl
   have t3 := HD3.str.blk.thaw 3
   have hcut : N ≤ m.b.length := hN2
   obtain ⟨U, hUU⟩ : ∃ U, U = usedF ((l ++ m.cut N N :: r).map FilM.fil) := ⟨_, rfl⟩
   have hU : (usedF lf : Int) - ((m.b.length : Int) - (N : Int)) = (U : Int) := by
    rw [hUU, HLF.out, List.map_append, List.map_cons, List.map_append, List.map_cons, used_split, used_split]
    have e1 : (m.cut N N).fil.b.length = N := by show (m.b.take N).length = N; simp; omega
    have e2 : m.fil.b.length = m.b.length := rfl
    rw [e1, e2]
    omega
   have h4 := HD3.put (u' := (U : Int)) (d' := { d with fs := (l ++ m :: r).map FilM.fil }) (pl' := pl) 3 (.int .i64 (U : Int)) rfl rfl HD3.plan
   have hkb4 : Kb (dfp bd bm pl d ms) W (w'.setCell ⟨bd, 3, none⟩ (.int .i64 (U : Int))) :=
    (((HB1.out.trans (Kb.of_ext (fp := dfp bd bm pl d ms) hx3) (fun _ h => .inl h)).trans (Kb.of_ext (fp := dfp bd bm pl d ms) hext) (fun _ h => .inl h))).trans (Kb.set (dfp bd bm pl d ms) _ bd 3 _ (.inl rfl)) (fun _ h => .inl h)
   obtain ⟨hi1, hi2⟩ := HD3.iter ((HRG.out.kb_ext hx3).kb_ext hext)
   have hrg4 := ((HRG.out.kb_ext hx3).kb_ext hext).kb_of (Kb.set (fun k => k = bd) w' bd 3 (.int .i64 (U : Int)) rfl) (map_ne2 HD3) (fun e => hi1 bd (.inl rfl) e.symm)
   have hkb5 := (hkb4.trans (Kb.set (dfp bd bm pl d ms) _ m.blk 0 (.slice A N N) (.inr (.inr (.inr ⟨m, hm, rfl⟩)))) (fun _ h => .inl h)).trans (Kb.set (dfp bd bm pl d ms) _ m.blk 1 (.int .i64 (N : Int)) (.inr (.inr (.inr ⟨m, hm, rfl⟩)))) (fun _ h => .inl h)
   have hmem : m ∈ l ++ m :: r := by simp
   have hrg5 := (hrg4.kb_of (Kb.set (fun k => k = m.blk) _ m.blk 0 (.slice A N N) rfl) (map_ne3 HD3 hmem) (fun e => hi1 m.blk (.inr (.inr (.inr ⟨m, hmem, rfl⟩))) e.symm)).kb_of (Kb.set (fun k => k = m.blk) _ m.blk 1 (.int .i64 (N : Int)) rfl) (map_ne3 HD3 hmem) (fun e => hi1 m.blk (.inr (.inr (.inr ⟨m, hmem, rfl⟩))) e.symm)
   have hcv : cutV m.v N = .slice A N N := by rw [HM.out]; rfl
   have hb4 := (h4.bytes m hmem).cut hN2
   rw [hcv] at hb4
   have h5 := h4.fput (m' := ⟨m.name, m.blk, .slice A N N, m.b.take N, m.sure⟩) (d' := { d with fs := (l ++ ⟨m.name, m.blk, .slice A N N, m.b.take N, m.sure⟩ :: r).map FilM.fil }) 0 (.slice A N N) rfl rfl rfl hb4 rfl rfl rfl
   have h6 := h5.fput (m' := m.cut N N) (d' := { d with fs := (l ++ m.cut N N :: r).map FilM.fil }) 1 (.int .i64 (N : Int)) rfl rfl (by show [_, _] = [cutV m.v N, _]; rw [hcv]; rfl) (by show BsT _ _ (cutV m.v N) (m.b.take N); rw [hcv]; exact h5.bytes ⟨m.name, m.blk, .slice A N N, m.b.take N, m.sure⟩ (by simp)) rfl rfl rfl
   have f40 := (HD3.files m hmem).1.blk
   have hne : m.blk ≠ bd := (HD3.files m hmem).1.ne HD3.str (by decide)
   have hne' : bd ≠ m.blk := hne.symm
   rw [HM.out] at f40
   have c0 := f40.cell (i := 0) rfl
   have c1 := f40.cell (i := 1) rfl
   have t0 := f40.thaw 0
   have t1 := f40.thaw 1
   have HUU := Lib.hid hUU
   clear hUU
   have H6 := Lib.hid h6
   have H5R := Lib.hid hrg5
   have H5K := Lib.hid hkb5
   clear h4 h5 h6 hrg4 hrg5 hkb4 hkb5 HD3 hb4 hcv hi1 hi2 f40
   rw [f45, f47, hU]
   clear hU
   have hq : 0 ≤ N := Nat.zero_le _
   have hcap : N ≤ c := Nat.le_trans hN2 g1
   go_wp2_with fail
   go_roundw
   case rel =>
    refine ⟨_, cnt1, H5R.out, ?_, H5K.out, fun kl hk => HHAS.out kl (by revert hk; cases left kl <;> simp)⟩
    rw [HER.out, HLO.out]
    have h := H6.out
    rw [HUU.out] at h ⊢
    exact h
   case measure => rw [H5R.out.left_eq, HRG0.out.left_eq]; exact hlt
end Go.Proofs.YtagghghoimpofaaGreatDoor

/-
 Layer 15: a step of the disk: what stands behind a call, what it keeps; files come and go.
-/
namespace Go.Proofs.YtagghghoimpofaaGreatDoor
open Go Go.RowKit Mono
open Go.Maps (Keyed has size)
set_option linter.unusedVariables false
set_option linter.unusedSimpArgs false
set_option maxRecDepth 100000

/-- All blocks of the disk: those that it writes, and its bytes. -/
def dall (bd bm pl : Nat) (d : Dk) (ms : List FilM) (k : Nat) : Prop := dfp bd bm pl d ms k ∨ ∃ m ∈ ms, m.v.ownBlock = some k
/-- A call has turned the disk d into d', and nothing else. -/
structure DkS (z : Nat) (W W' : World) (bd bm pl : Nat) (d : Dk) (ms : List FilM) (pl' : Nat) (d' : Dk) (ms' : List FilM) : Prop where
 dk : DkM z W' bd bm pl' d' ms'
 kb : Kb (dall bd bm pl d ms) W W'
 fp : ∀ k, dall bd bm pl' d' ms' k → dall bd bm pl d ms k ∨ W.heap.size ≤ k
theorem DkS.refl {z bd bm pl : Nat} {W : World} {d : Dk} {ms : List FilM} (h : DkM z W bd bm pl d ms) : DkS z W W bd bm pl d ms pl d ms := ⟨h, Kb.refl _ _, fun _ h => .inl h⟩
theorem DkS.ext {z bd bm pl : Nat} {W W' : World} {d : Dk} {ms : List FilM} (h : DkM z W bd bm pl d ms) (he : Ext W W') : DkS z W W' bd bm pl d ms pl d ms := ⟨h.ext he, Kb.of_ext he, fun _ h => .inl h⟩
theorem DkS.trans {z bd bm pl pl1 pl2 : Nat} {W W1 W2 : World} {d d1 d2 : Dk} {ms ms1 ms2 : List FilM} (h : DkS z W W1 bd bm pl d ms pl1 d1 ms1) (k : DkS z W1 W2 bd bm pl1 d1 ms1 pl2 d2 ms2) : DkS z W W2 bd bm pl d ms pl2 d2 ms2 := by
 refine ⟨k.dk, h.kb.trans k.kb h.fp, fun b hb => ?_⟩
 rcases k.fp b hb with h1 | h1
 ·exact h.fp b h1
 ·exact .inr (Nat.le_trans h.kb.size h1)
theorem dall_same {bd bm pl : Nat} {d d' : Dk} {ms ms' : List FilM} (hp : d'.plan.isSome = true → d.plan.isSome = true) (h : ∀ m' ∈ ms', ∃ m ∈ ms, m'.blk = m.blk ∧ (∀ j, m'.v.ownBlock = some j → m.v.ownBlock = some j)) : ∀ k, dall bd bm pl d' ms' k → dall bd bm pl d ms k := by
 rintro k ((rfl | rfl | ⟨h1, rfl⟩ | ⟨m', hm', rfl⟩) | ⟨m', hm', hj⟩)
 ·exact .inl (.inl rfl)
 ·exact .inl (.inr (.inl rfl))
 ·exact .inl (.inr (.inr (.inl ⟨hp h1, rfl⟩)))
 ·obtain ⟨m, hm, e1, e2⟩ := h m' hm'
  exact .inl (.inr (.inr (.inr ⟨m, hm, e1⟩)))
 ·obtain ⟨m, hm, e1, e2⟩ := h m' hm'
  exact .inr ⟨m, hm, e2 k hj⟩
/-- The power fails. -/
theorem DkS.of_lose {z bd bm pl : Nat} {W W' : World} {d : Dk} {ms : List FilM} {keep : Int} (hD : DkM z W' bd bm pl (d.lose keep) (ms.map (FilM.lose keep))) (hk : Kb (dfp bd bm pl d ms) W W') (h : DkM z W bd bm pl d ms) : DkS z W W' bd bm pl d ms pl (d.lose keep) (ms.map (FilM.lose keep)) := by
 refine ⟨hD, hk.mono fun b hb => .inl hb, fun k hkk => .inl (dall_same (fun h => by cases h) (fun m' hm' => ?_) k hkk)⟩
 obtain ⟨m, hm, rfl⟩ := List.mem_map.1 hm'
 refine ⟨m, hm, rfl, fun j hj => ?_⟩
 obtain ⟨A, c, hv, _⟩ := (h.bytes m hm).bs.open_
 have hj' : (cutV m.v (keepN keep m.fil)).ownBlock = some j := hj
 rw [hv] at hj' ⊢
 exact (cutV_own A _ _ _).symm.trans hj'

/-! ### An operation is counted -/
def Dk.tick (d : Dk) : Dk := match d.plan with
 | some (n + 1, k) => { d with plan := some (n, k), ops := d.ops + 1 }
 | _ => { d with ops := d.ops + 1 }
def Dk.dead (d : Dk) : Option Int := match d.plan with
 | some (0, k) => some k
 | _ => none
theorem Dk.count_eq (d : Dk) (act : Dk → Dk) : d.count act = match d.dead with
  | some k => (d.lose k, 150)
  | none => (act d.tick, 0) := by
 unfold Dk.count Dk.dead Dk.tick
 rcases d.plan with _ | ⟨_ | n, k⟩ <;> rfl
structure Dk.Small (d : Dk) : Prop where
 cnt : d.ops + d.fails ≤ 1000000000
 plan : ∀ n k, d.plan = some (n, k) → n < 9223372036854775808

/-! ### Files come and go -/
def insM (x : FilM) : List FilM → List FilM
 | [] => [x]
 | m :: r => if Op.bytesLess x.name m.name = true then x :: m :: r else m :: insM x r
theorem insM_mem {x y : FilM} : ∀ {ms : List FilM}, y ∈ insM x ms ↔ y = x ∨ y ∈ ms
 | [] => by simp [insM]
 | m :: r => by
  unfold insM
  split
  ·simp
  ·simp [insM_mem (ms := r)]
   constructor
   ·rintro (h | h | h)
    ·exact .inr (.inl h)
    ·exact .inl h
    ·exact .inr (.inr h)
   ·rintro (h | h | h)
    ·exact .inr (.inl h)
    ·exact .inl h
    ·exact .inr (.inr h)
theorem insM_len (x : FilM) : ∀ ms : List FilM, (insM x ms).length = ms.length + 1
 | [] => rfl
 | m :: r => by
  unfold insM
  split
  ·rfl
  ·simp [insM_len x r]
theorem insM_fil (x : FilM) (hb : x.b = []) (hs : x.sure = 0) : ∀ ms : List FilM, (insM x ms).map FilM.fil = insF x.name (ms.map FilM.fil)
 | [] => by simp [insM, insF, FilM.fil, hb, hs]
 | m :: r => by
  have ih := insM_fil x hb hs r
  unfold insM
  simp only [List.map_cons]
  unfold insF
  have : (FilM.fil m).name = m.name := rfl
  rw [this]
  split
  ·simp [FilM.fil, hb, hs]
  ·simp [ih]
theorem insM_blk {x : FilM} : ∀ {ms : List FilM}, (∀ m ∈ ms, m.blk ≠ x.blk) → ms.Pairwise (fun a b => a.blk ≠ b.blk) → (insM x ms).Pairwise fun a b => a.blk ≠ b.blk
 | [], _, _ => by simp [insM]
 | m :: r, h, hp => by
  obtain ⟨h1, h2⟩ := List.pairwise_cons.1 hp
  unfold insM
  split
  ·exact List.pairwise_cons.2 ⟨fun y hy => (h y hy).symm, hp⟩
  ·refine List.pairwise_cons.2 ⟨fun y hy => ?_, insM_blk (fun y hy => h y (List.mem_cons_of_mem _ hy)) h2⟩
   rcases insM_mem.1 hy with rfl | hy
   ·exact h m List.mem_cons_self
   ·exact h1 y hy
theorem insM_any (x : FilM) (n : List UInt8) : ∀ ms : List FilM, (insM x ms).any (fun m => m.name == n) = ((x.name == n) || ms.any fun m => m.name == n)
 | [] => by simp [insM]
 | m :: r => by
  unfold insM
  split
  ·simp
  ·simp [insM_any x n r]
   cases m.name == n <;> cases x.name == n <;> rfl
theorem str_key {s : List UInt8} (h : s.length ≤ maxLen) : WideAt.IsKeyLit (.string s) := keyS.key (keyOf_str s h)
theorem MapIs.put {D : DataW Unit} {ms : List FilM} (h : MapIs D ms) (ht : Maps.Tidy D) {x : FilM} (hl : x.name.length ≤ maxLen) (hno : ∀ m ∈ ms, m.name ≠ x.name) : MapIs (D.put (.string x.name) (ptrD x.blk)) (insM x ms) := by
 have him : Maps.IsMap D := by
  obtain ⟨es, e, _⟩ := ht
  exact ⟨es, e⟩
 have hf : has D (.string x.name) = false := by
  rw [h.has_, List.any_eq_false]
  intro m hm
  simpa using hno m hm
 refine ⟨fun n => ?_, fun m hm zz => ?_, ?_⟩
 ·rw [insM_any]
  by_cases hn : x.name = n
  ·subst hn
   rw [Maps.has_put_same him (str_key hl)]
   simp
  ·rw [Maps.has_put_other (fun e => hn (by injection e with e; exact e.symm)), h.has_]
   simp [hn]
 ·rcases insM_mem.1 hm with rfl | hm
  ·exact Maps.atKey_put_same him (str_key hl) _ _
  ·rw [Maps.atKey_put_other (fun e => hno m hm (by injection e))]
   exact h.at_ m hm zz
 ·rw [Maps.size_put ht, hf, insM_len, ← h.size_]
  simp
theorem MapIs.drop {D : DataW Unit} {ms : List FilM} (h : MapIs D ms) (ht : Maps.Tidy D) {m : FilM} (hm : m ∈ ms) (hp : ms.Pairwise fun a b => a.name ≠ b.name) : MapIs (D.del (.string m.name)) (ms.filter fun x => !(x.name == m.name)) := by
 have hin : has D (.string m.name) = true := by
  rw [h.has_]
  exact List.any_eq_true.2 ⟨m, hm, by simp⟩
 refine ⟨fun n => ?_, fun x hx zz => ?_, ?_⟩
 ·by_cases hn : n = m.name
  ·subst hn
   rw [Maps.has_del_same]
   symm
   rw [List.any_eq_false]
   intro x hx
   have := (List.mem_filter.1 hx).2
   simpa using this
  ·rw [Maps.has_del_other (fun e => hn (by injection e)), h.has_]
   rw [Bool.eq_iff_iff, List.any_eq_true, List.any_eq_true]
   constructor
   ·rintro ⟨x, hx, hxn⟩
    refine ⟨x, List.mem_filter.2 ⟨hx, ?_⟩, hxn⟩
    have : x.name = n := by simpa using hxn
    rw [this]
    simpa using hn
   ·rintro ⟨x, hx, hxn⟩
    exact ⟨x, (List.mem_filter.1 hx).1, hxn⟩
 ·obtain ⟨hx1, hx2⟩ := List.mem_filter.1 hx
  have hne : x.name ≠ m.name := by simpa using hx2
  rw [Maps.atKey_del_other (fun e => hne (by injection e))]
  exact h.at_ x hx1 zz
 ·have h1 := Maps.size_del (k := .string m.name) ht
  rw [hin, h.size_] at h1
  have h2 : ∀ ms : List FilM, m ∈ ms → ms.Pairwise (fun a b => a.name ≠ b.name) → (ms.filter fun x => !(x.name == m.name)).length + 1 = ms.length := by
   intro ms hm hp
   obtain ⟨l, r, rfl⟩ := List.append_of_mem hm
   obtain ⟨h1, h2, h3⟩ := List.pairwise_append.1 hp
   obtain ⟨h4, h5⟩ := List.pairwise_cons.1 h2
   have e1 : l.filter (fun x => !(x.name == m.name)) = l := List.filter_eq_self.2 fun x hx => by simpa using h3 x hx m List.mem_cons_self
   have e2 : r.filter (fun x => !(x.name == m.name)) = r := List.filter_eq_self.2 fun x hx => by simpa using (h4 x hx).symm
   rw [List.filter_append, List.filter_cons, e1, e2]
   simp
   omega
  have := h2 ms hm hp
  simp only [if_true] at h1
  omega
theorem own_tight {W : World} {b n : Nat} {D : DataW Unit} (h : W.ownsMap Tryz.prog 9 ptrR b n D) : W.ownsMap Tryz.prog 9 ptrR b (size D) D := by
 obtain ⟨es, clock, hb, F, hs, rfl⟩ := h
 exact ⟨es, clock, hb, F, by simp [size, length_sorted], rfl⟩
end Go.Proofs.YtagghghoimpofaaGreatDoor
