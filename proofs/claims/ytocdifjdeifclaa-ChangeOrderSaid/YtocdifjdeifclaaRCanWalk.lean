/-
  Layer 12: the document's Canon.
-/
import Derived.Test.YtocdifjdeifclaaCanWalk
import Derived.Test.YtocdifjdeifclaaChGoodRef
namespace Go.Proofs.Ytocdifjdeifclaa
open Go Go.RowKit Mono Num
set_option linter.unusedVariables false
set_option linter.unusedSimpArgs false
set_option maxRecDepth 100000

theorem rinsG_len (x : Wr) : ∀ (out : List Wr) (dn : Bool), (rinsG x dn out).length ≤ out.length + 1
  | [], dn => by cases dn <;> simp [rinsG]
  | y :: r, dn => by
    cases dn with
    | true =>
      have := (rinsG_true x (y :: r)).length_le
      omega
    | false =>
      cases h : wahead y x with
      | true =>
        have ih := rinsG_len x r false
        have e : rinsG x false (y :: r) = y :: rinsG x false r := by simp [rinsG, h]
        rw [e]
        simp only [List.length_cons]
        omega
      | false =>
        have e : rinsG x false (y :: r) = x :: rinsG x true (y :: r) := by simp [rinsG, h]
        have := (rinsG_true x (y :: r)).length_le
        rw [e]
        simp only [List.length_cons] at *
        omega
theorem rcanonF_len (ws : List Wr) : (rcanonF ws).length ≤ ws.length := by
  induction ws using snocInd with
  | h0 => exact Nat.le_refl _
  | h1 r x ih =>
    rw [rcanonF_snoc, List.length_append]
    have := rinsG_len x (rcanonF r) false
    simp only [List.length_singleton]
    omega
/-- What of a round is still to come, behind the first test: y may still be laid. -/
def rest1 (x y : Wr) (dn : Bool) (r : List Wr) : List Wr := (if wahead y x || wahead x y then [y] else []) ++ rinsG x dn r
/-- The row that is being made. -/
structure RinR (Wi : World) (vn : Value) (ns : List Wr) (W : World) : Prop where
  ext : Ext Wi W
  row : W.ownsRow Wi.heap.size 31 4 vn ns.length (wrsC ns)
theorem RinR.more {Wi : World} {vn : Value} {ns : List Wr} {W W' : World} (h : RinR Wi vn ns W) (he : Ext W W') : RinR Wi vn ns W' :=
  ⟨h.ext.trans he, h.row.kept (row := none) ⟨he.os, he.tape, he.output, he.size, fun j hj _ => he.block j hj⟩ (by cases vn.ownBlock <;> simp)⟩
theorem RinR.add {Wi : World} {vn v' : Value} {ns : List Wr} {W W1 W2 : World} {x : Wr} (h : RinR Wi vn ns W) (he : Ext W W1) (hown : W2.ownsRow Wi.heap.size 31 4 v' (ns.length + 1) (wrsC ns ++ [.string ⟨x.key.toArray⟩, .int .i64 x.group, .bool x.gone, .string ⟨x.value.toArray⟩])) (hg : W1.grownBy W2 vn.ownBlock) : RinR Wi v' (ns ++ [x]) W2 := by
  have h1 := h.more he
  refine ⟨Below.grown h1.ext hg h1.ext.size (fun j ej => (World.ownsRow.lt h1.row j ej).1), ?_⟩
  rw [List.length_append, show wrsC (ns ++ [x]) = wrsC ns ++ [.string ⟨x.key.toArray⟩, .int .i64 x.group, .bool x.gone, .string ⟨x.value.toArray⟩] from by unfold wrsC; simp [strV]]
  exact hown
theorem RinR.ns_le {Wi : World} {vn : Value} {ns os t : List Wr} {x : Wr} {W : World} (h : RinR Wi vn ns W) (he : ns ++ t = rinsG x false os) : ns.length ≤ os.length + 1 := by
  have e1 := congrArg List.length he
  have e2 := rinsG_len x os false
  rw [List.length_append] at e1
  omega
theorem eq_0 {x y : Wr} {dn : Bool} {r ns T : List Wr} (h : dn = true ∨ wahead y x = true) (e : ns ++ rinsG x dn (y :: r) = T) : ns ++ rest1 x y dn r = T := by
  rw [← e]
  unfold rest1
  rcases h with rfl | h
  · simp [rinsG]
  · cases dn <;> simp [rinsG, h]
theorem eq_x {x y : Wr} {r ns T : List Wr} (h : wahead y x = false) (e : ns ++ rinsG x false (y :: r) = T) : (ns ++ [x]) ++ rest1 x y true r = T := by
  rw [← e]
  unfold rest1
  simp [rinsG, h]
theorem eq_y {x y : Wr} {dn : Bool} {r ns T : List Wr} (h : wahead y x = true ∨ wahead x y = true) (e : ns ++ rest1 x y dn r = T) : (ns ++ [y]) ++ rinsG x dn r = T := by
  rw [← e]
  unfold rest1
  rcases h with h | h <;> simp [h]
theorem eq_skip {x y : Wr} {dn : Bool} {r ns T : List Wr} (h1 : wahead y x = false) (h2 : wahead x y = false) (e : ns ++ rest1 x y dn r = T) : ns ++ rinsG x dn r = T := by
  rw [← e]
  unfold rest1
  simp [h1, h2]
theorem eq_end {x : Wr} {dn : Bool} {ns T : List Wr} (e : ns ++ rinsG x dn [] = T) : ns ++ (if dn then [] else [x]) = T := by rw [← e]; rfl
def isW4 (W : World) (b o : Nat) (x : Wr) : Prop := W.cell? ⟨b, o, none⟩ = some (strV x.key) ∧ W.cell? ⟨b, o + 1, none⟩ = some (.int .i64 x.group) ∧ W.cell? ⟨b, o + 2, none⟩ = some (.bool x.gone) ∧ W.cell? ⟨b, o + 3, none⟩ = some (strV x.value)
theorem isW4.ext {W W' : World} {b o : Nat} {x : Wr} (h : isW4 W b o x) (hb : b < W.heap.size) (he : Ext W W') : isW4 W' b o x :=
  ⟨(he.cell (p := ⟨b, o, none⟩) hb).trans h.1, (he.cell (p := ⟨b, o + 1, none⟩) hb).trans h.2.1, (he.cell (p := ⟨b, o + 2, none⟩) hb).trans h.2.2.1, (he.cell (p := ⟨b, o + 3, none⟩) hb).trans h.2.2.2⟩

set_option maxHeartbeats 4000000 in
theorem rcanon_any (v : Value) (ws : List Wr) (w : World) (h : Ws w v ws) (hl : ws.length ≤ 100000) :
    Calls Try.prog 26 #[v] w fun e w' => ∃ r, e = .returned r ∧ Ws w' r (rcanonF ws) ∧ Ext w w' := by
  obtain ⟨i0, hi0, hz0, hz1, hz2⟩ := info_parts infoWrK
  have HI0 := Lib.hid hi0
  have HZ0 := Lib.hid hz0
  have HZ1 := Lib.hid hz1
  have HZ2 := Lib.hid hz2
  obtain ⟨A, cl, rfl, h1, h2, h3, h4⟩ := h.at_
  have H4 := Lib.hid h4
  have HFIT := Lib.hid h.2
  clear h h4 hi0 hz0 hz1 hz2
  go_enter Try.func26, Try.ntmps26
  go_wp2_with fail
  go_loopw [3, 4] (fun ov iv wr => ∃ (i : Nat) (os : List Wr), i ≤ ws.length ∧ iv = .int .i64 (i : Int) ∧ Hid (os = rcanonF (ws.take i)) ∧ Hid (Ws wr ov os) ∧ Hid (Ext w wr)) (fun _ iv _ => ws.length - (intOf iv).toNat)
  case atStart => exact ⟨0, [], Nat.zero_le _, rfl, Lib.hid rfl, Lib.hid (Ws.nil_ _), Lib.hid (Ext.refl _)⟩
  case round =>
    obtain ⟨i, os, hi, rfl, HOS, HWS, HXW⟩ := hrel
    obtain ⟨Ao, co, rfl, g1, g2, g3, g4⟩ := HWS.out.at_
    have hol : os.length ≤ 100000 := by
      have e1 := congrArg List.length HOS.out
      have e2 := rcanonF_len (ws.take i)
      have e3 := List.length_take_le i ws
      omega
    by_cases hiw : i < ws.length
    · obtain ⟨bl, ol, rfl, hbl, hcl⟩ := H4.out (by omega)
      obtain ⟨kx, gx, dx, zx, hgetx, p0, p1, p2, p3, fx1, fx2, fx3⟩ := hcl i hiw
      have HGX := Lib.hid hgetx
      have HXI : Hid (∀ W, Ext wr W → isW4 W bl (ol + i * 4) ⟨kx, gx, dx, zx⟩) := Lib.hid fun W he => (show isW4 w bl (ol + i * 4) ⟨kx, gx, dx, zx⟩ from ⟨p0, p1, p2, p3⟩).ext hbl (HXW.out.trans he)
      have HFX : Hid ((⟨kx, gx, dx, zx⟩ : Wr).fits) := Lib.hid ⟨fx1, fx2, fx3⟩
      have HBL := Lib.hid (Nat.lt_of_lt_of_le hbl HXW.out.size)
      have HG4 := Lib.hid g4
      clear hcl hgetx p0 p1 p2 p3 fx1 fx2 fx3 hbl g4
      obtain ⟨Wi, hWi⟩ : ∃ W, W = wr := ⟨_, rfl⟩
      rw [← hWi] at HXI HBL HG4
      have HR0 : Hid (RinR Wi (.slice none 0 0) [] wr) := Lib.hid (by subst hWi; exact ⟨Ext.refl _, World.ownsRow_nil _ _ _ _⟩)
      have HWI : Hid (Ext w Wi ∧ Ws Wi (.slice Ao os.length co) os) := Lib.hid (by subst hWi; exact ⟨HXW.out, HWS.out⟩)
      clear hWi HXW HWS
      go_wp2_with fail
      go_loopw [5, 6, 7] (fun nv dv kv W => ∃ (k : Nat) (dn : Bool) (vn : Value) (ns : List Wr), k ≤ os.length ∧ nv = vn ∧ kv = .int .i64 (k : Int) ∧ dv = .bool dn ∧ Hid (RinR Wi vn ns W) ∧ Hid (ns ++ rinsG ⟨kx, gx, dx, zx⟩ dn (os.drop k) = rinsG ⟨kx, gx, dx, zx⟩ false os)) (fun _ _ kv _ => os.length - (intOf kv).toNat)
      case atStart => exact ⟨0, false, _, [], Nat.zero_le _, rfl, rfl, rfl, HR0, Lib.hid rfl⟩
      case round =>
        obtain ⟨k, dn, vn, ns, hk, rfl, rfl, rfl, HJ, HEQ⟩ := hrel
        clear HR0
        obtain ⟨W, rfl⟩ : ∃ W, W = wr := ⟨_, rfl⟩
        by_cases hko : k < os.length
        · obtain ⟨bo, oo, rfl, hbo, hcy⟩ := HG4.out (by omega)
          obtain ⟨ky, gy, dy, zy, hgety, p0, p1, p2, p3, fy1, fy2, fy3⟩ := hcy k hko
          have HYI : Hid (∀ W, Ext Wi W → isW4 W bo (oo + k * 4) ⟨ky, gy, dy, zy⟩) := Lib.hid fun W he => (show isW4 Wi bo (oo + k * 4) ⟨ky, gy, dy, zy⟩ from ⟨p0, p1, p2, p3⟩).ext hbo he
          have HLB : Hid (bl < Wi.heap.size ∧ bo < Wi.heap.size) := Lib.hid ⟨HBL.out, hbo⟩
          have HB : Hid (bl < W.heap.size ∧ bo < W.heap.size) := Lib.hid ⟨Nat.lt_of_lt_of_le HBL.out HJ.out.ext.size, Nat.lt_of_lt_of_le hbo HJ.out.ext.size⟩
          have HX : Hid (isW4 W bl (ol + i * 4) ⟨kx, gx, dx, zx⟩) := Lib.hid (HXI.out W HJ.out.ext)
          have HY : Hid (isW4 W bo (oo + k * 4) ⟨ky, gy, dy, zy⟩) := Lib.hid (HYI.out W HJ.out.ext)
          have hdr : os.drop k = ⟨ky, gy, dy, zy⟩ :: os.drop (k + 1) := by rw [List.drop_eq_getElem_cons hko, (List.getElem?_eq_some_iff.1 hgety).2]
          rw [hdr] at HEQ
          have H1 := Lib.hid (fun w => rahead_any ky gy dy zy kx gx dx zx w)
          have H2 := Lib.hid (fun w => rahead_any kx gx dx zx ky gy dy zy w)
          obtain ⟨a1, ha1⟩ : ∃ a, a = wahead ⟨ky, gy, dy, zy⟩ ⟨kx, gx, dx, zx⟩ := ⟨_, rfl⟩
          obtain ⟨a2, ha2⟩ : ∃ a, a = wahead ⟨kx, gx, dx, zx⟩ ⟨ky, gy, dy, zy⟩ := ⟨_, rfl⟩
          rw [show (Op.bytesLess ky kx || (ky == kx && decide (gy < gx))) = a1 from ha1.symm] at H1
          rw [show (Op.bytesLess kx ky || (kx == ky && decide (gx < gy))) = a2 from ha2.symm] at H2
          have HA1 := Lib.hid ha1.symm
          have HA2 := Lib.hid ha2.symm
          clear hgety hdr ha1 ha2 p0 p1 p2 p3 fy1 fy2 fy3 hbo hcy
          unfold isW4 at HX HY
          dsimp only at HX HY
          cases dn
          · cases a1
            · go_upto_region 10 with (fail)
              refine wp_region_mono (by kernel_rfl) (by kernel_rfl) ?_
              refine tele_move rfl (.inl rfl) rfl (isV (.bool false)) (fun ρ w' h => h) ?_
              refine tele_val rfl (.bool true) (fun _ _ _ => rfl) ?_ ?_
              · rintro ρ w' he ⟨h20, -⟩
                have e20 : ρ 20 = (.bool false) := h20
                simp [execOp, evR, e20, go_sem]
              refine tele_move rfl (.inl rfl) rfl (isV (.bool true)) (fun ρ w' h => h) ?_
              refine tele_val rfl ((.slice (some ⟨bo, oo, none⟩) os.length co)) (fun ρ w' hk => by obtain ⟨_, hg, -⟩ := hk; have eg : ρ 22 = (.bool true) := hg; simp [wantedR, Region.wanted, asBoolR, eg]) ?_ ?_
              · rintro ρ w' he ⟨h3, -⟩
                have e3 : ρ 3 = (.slice (some ⟨bo, oo, none⟩) os.length co) := h3
                simp [execOp, evR, e3]
              refine tele_val rfl ((.int .i64 (k : Int))) (fun ρ w' hk => by obtain ⟨_, hg, -⟩ := hk; have eg : ρ 22 = (.bool true) := hg; simp [wantedR, Region.wanted, asBoolR, eg]) ?_ ?_
              · rintro ρ w' he ⟨h7, -⟩
                have e7 : ρ 7 = (.int .i64 (k : Int)) := h7
                simp [execOp, evR, e7]
              refine tele_val rfl (.pointer (some ⟨bo, oo + k * 4, none⟩)) (fun ρ w' hk => by obtain ⟨_, _, hg, -⟩ := hk; have eg : ρ 22 = (.bool true) := hg; simp [wantedR, Region.wanted, asBoolR, eg]) ?_ ?_
              · rintro ρ w' he ⟨h23, h24, -⟩
                have e23 : ρ 23 = (.slice (some ⟨bo, oo, none⟩) os.length co) := h23
                have e24 : ρ 24 = (.int .i64 (k : Int)) := h24
                exact index_at (w := w') 4 rfl Try.underlying27 e23 e24 hko (by kernel_rfl)
              refine tele_val rfl (.agg #[strV ky, .int .i64 gy, .bool dy, strV zy]) (fun ρ w' hk => by obtain ⟨_, hg, -⟩ := hk; have eg : ρ 22 = (.bool true) := hg; simp [wantedR, Region.wanted, asBoolR, eg]) ?_ ?_
              · rintro ρ w' he ⟨h25, -⟩
                have e25 : ρ 25 = (.pointer (some ⟨bo, oo + k * 4, none⟩)) := h25
                have c0 := (he.cell HB.out.2).trans HY.out.1
                have c1 := (he.cell HB.out.2).trans HY.out.2.1
                have c2 := (he.cell HB.out.2).trans HY.out.2.2.1
                have c3 := (he.cell HB.out.2).trans HY.out.2.2.2
                simp [execOp, evR, e25, c0, c1, c2, c3, go_sem]
              refine tele_val rfl ((.slice (some ⟨bl, ol, none⟩) ws.length cl)) (fun ρ w' hk => by obtain ⟨_, hg, -⟩ := hk; have eg : ρ 22 = (.bool true) := hg; simp [wantedR, Region.wanted, asBoolR, eg]) ?_ ?_
              · rintro ρ w' he ⟨h0, -⟩
                have e0 : ρ 0 = (.slice (some ⟨bl, ol, none⟩) ws.length cl) := h0
                simp [execOp, evR, e0]
              refine tele_val rfl ((.int .i64 (i : Int))) (fun ρ w' hk => by obtain ⟨_, hg, -⟩ := hk; have eg : ρ 22 = (.bool true) := hg; simp [wantedR, Region.wanted, asBoolR, eg]) ?_ ?_
              · rintro ρ w' he ⟨h4, -⟩
                have e4 : ρ 4 = (.int .i64 (i : Int)) := h4
                simp [execOp, evR, e4]
              refine tele_val rfl (.pointer (some ⟨bl, ol + i * 4, none⟩)) (fun ρ w' hk => by obtain ⟨_, _, hg, -⟩ := hk; have eg : ρ 22 = (.bool true) := hg; simp [wantedR, Region.wanted, asBoolR, eg]) ?_ ?_
              · rintro ρ w' he ⟨h27, h28, -⟩
                have e27 : ρ 27 = (.slice (some ⟨bl, ol, none⟩) ws.length cl) := h27
                have e28 : ρ 28 = (.int .i64 (i : Int)) := h28
                exact index_at (w := w') 4 rfl Try.underlying27 e27 e28 hiw (by kernel_rfl)
              refine tele_val rfl (.agg #[strV kx, .int .i64 gx, .bool dx, strV zx]) (fun ρ w' hk => by obtain ⟨_, hg, -⟩ := hk; have eg : ρ 22 = (.bool true) := hg; simp [wantedR, Region.wanted, asBoolR, eg]) ?_ ?_
              · rintro ρ w' he ⟨h29, -⟩
                have e29 : ρ 29 = (.pointer (some ⟨bl, ol + i * 4, none⟩)) := h29
                have c0 := (he.cell HB.out.1).trans HX.out.1
                have c1 := (he.cell HB.out.1).trans HX.out.2.1
                have c2 := (he.cell HB.out.1).trans HX.out.2.2.1
                have c3 := (he.cell HB.out.1).trans HX.out.2.2.2
                simp [execOp, evR, e29, c0, c1, c2, c3, go_sem]
              refine tele_call rfl rfl Try.func42 (by kernel_rfl) (isV (.bool false)) (fun ρ w' hk => by obtain ⟨_, _, hg, -⟩ := hk; have eg : ρ 22 = (.bool true) := hg; simp [wantedR, Region.wanted, asBoolR, eg]) ?_ ?_
              · rintro ρ w' he ⟨h26, h30, -⟩
                have e26 : ρ 26 = (.agg #[strV ky, .int .i64 gy, .bool dy, strV zy]) := h26
                have e30 : ρ 30 = (.agg #[strV kx, .int .i64 gx, .bool dx, strV zx]) := h30
                simp only [evR, List.map_toArray, List.map_cons, List.map_nil, e26, e30]
                refine (H1.out _).mono ?_
                rintro e w'' ⟨rfl, hx⟩
                exact ⟨_, rfl, hx, rfl⟩
              refine tele_val rfl (.bool true) (fun ρ w' hk => by obtain ⟨_, hg, -⟩ := hk; have eg : ρ 22 = (.bool true) := hg; simp [wantedR, Region.wanted, asBoolR, eg]) ?_ ?_
              · rintro ρ w' he ⟨h31, -⟩
                have e31 : ρ 31 = (.bool false) := h31
                simp [execOp, evR, e31, go_sem]
              refine tele_val rfl (.bool true) (fun _ _ _ => rfl) ?_ ?_
              · rintro ρ w' he ⟨h22, h32, -⟩
                have e22 : ρ 22 = (.bool true) := h22
                have e32 : ρ 32 = (.bool true) := h32
                simp [execOp, evR, e22, e32, go_sem]
              refine tele_nil ?_
              rintro ρ w' hext ⟨f33, f32, f31, f30, f29, f28, f27, f26, f25, f24, f23, f22, f21, f20, -⟩
              replace f20 : ρ 20 = (.bool false) := f20
              replace f21 : ρ 21 = (.bool true) := f21
              replace f22 : ρ 22 = (.bool true) := f22
              replace f23 : ρ 23 = (.slice (some ⟨bo, oo, none⟩) os.length co) := f23
              replace f24 : ρ 24 = (.int .i64 (k : Int)) := f24
              replace f25 : ρ 25 = (.pointer (some ⟨bo, oo + k * 4, none⟩)) := f25
              replace f26 : ρ 26 = (.agg #[strV ky, .int .i64 gy, .bool dy, strV zy]) := f26
              replace f27 : ρ 27 = (.slice (some ⟨bl, ol, none⟩) ws.length cl) := f27
              replace f28 : ρ 28 = (.int .i64 (i : Int)) := f28
              replace f29 : ρ 29 = (.pointer (some ⟨bl, ol + i * 4, none⟩)) := f29
              replace f30 : ρ 30 = (.agg #[strV kx, .int .i64 gx, .bool dx, strV zx]) := f30
              replace f31 : ρ 31 = (.bool false) := f31
              replace f32 : ρ 32 = (.bool true) := f32
              replace f33 : ρ 33 = (.bool true) := f33
              simp only [puts, Act.put, List.setIfInBounds_toArray, List.set_cons_zero, List.set_cons_succ]
              rw [f33]
              clear f20
              clear f21
              clear f22
              clear f23
              clear f24
              clear f25
              clear f26
              clear f27
              clear f28
              clear f29
              clear f30
              clear f31
              clear f32
              clear f33
              have HJ1 := Lib.hid (HJ.out.more hext)
              have HX1 := Lib.hid (show _ ∧ _ ∧ _ ∧ _ from ⟨(hext.cell HB.out.1).trans HX.out.1, (hext.cell HB.out.1).trans HX.out.2.1, (hext.cell HB.out.1).trans HX.out.2.2.1, (hext.cell HB.out.1).trans HX.out.2.2.2⟩)
              have HY1 := Lib.hid (show _ ∧ _ ∧ _ ∧ _ from ⟨(hext.cell HB.out.2).trans HY.out.1, (hext.cell HB.out.2).trans HY.out.2.1, (hext.cell HB.out.2).trans HY.out.2.2.1, (hext.cell HB.out.2).trans HY.out.2.2.2⟩)
              have HB1 : Hid (bl < w'.heap.size ∧ bo < w'.heap.size) := Lib.hid ⟨Nat.lt_of_lt_of_le HB.out.1 hext.size, Nat.lt_of_lt_of_le HB.out.2 hext.size⟩
              clear HJ HX HY HB hext
              have HJ := HJ1
              have HX := HX1
              have HY := HY1
              have HB := HB1
              clear HJ1 HX1 HY1 HB1
              generalize w' = W at *
              have p0 := HX.out.1
              have p1 := HX.out.2.1
              have p2 := HX.out.2.2.1
              have p3 := HX.out.2.2.2
              have nl := HJ.out.ns_le HEQ.out
              unfold strV at p0 p3
              have blk := Blk.new W #[.string ⟨kx.toArray⟩, .int .i64 gx, .bool dx, .string ⟨zx.toArray⟩] 31
              have hF : Fl (W.alloc (.cells #[.string ⟨kx.toArray⟩, .int .i64 gx, .bool dx, .string ⟨zx.toArray⟩] 31)) (.slice (some ⟨W.heap.size, 0, none⟩) 1 1) 1 [.string ⟨kx.toArray⟩, .int .i64 gx, .bool dx, .string ⟨zx.toArray⟩] := ⟨_, 1, rfl, Nat.le_refl _, by decide, by simp, fun _ => ⟨_, 0, rfl, blk.lt, fun j u hu => by rw [Nat.zero_add]; exact blk.cell (i := j) hu⟩⟩
              have HF := Lib.hid hF
              have HOw := Lib.hid (HJ.out.more (ext_alloc W (.cells #[.string ⟨kx.toArray⟩, .int .i64 gx, .bool dx, .string ⟨zx.toArray⟩] 31))).row
              have HSz := Lib.hid (HJ.out.more (ext_alloc W (.cells #[.string ⟨kx.toArray⟩, .int .i64 gx, .bool dx, .string ⟨zx.toArray⟩] 31))).ext.size
              have h1c : ∀ u ∈ ([.string ⟨kx.toArray⟩, .int .i64 gx, .bool dx, .string ⟨zx.toArray⟩] : List Value), u.oneCell' = true := by intro u hu; simp only [List.mem_cons, List.not_mem_nil, or_false] at hu; rcases hu with rfl | rfl | rfl | rfl <;> rfl
              clear blk hF
              go_upto_region 12 with (at_builtin; refine wpList_append_fl rfl (.tmp 34) (.tmp 39) 27 rfl Wi.heap.size 31 i0 _ 4 48 Try.underlying27 HI0.out HZ0.out HZ1.out HZ2.out rfl (by decide) HOw.out HF.out rfl rfl rfl h1c (by unfold maxLen; omega) (by omega) HSz.out ?_; intro v' w3 hown' hg hat; clear hat p0 p1 p2 p3; have HOw3 := Lib.hid hown'; have HG3 := Lib.hid hg; clear hown' hg)
              clear nl
              have HJ3 := Lib.hid (HJ.out.add (x := ⟨kx, gx, dx, zx⟩) (ext_alloc W (.cells #[.string ⟨kx.toArray⟩, .int .i64 gx, .bool dx, .string ⟨zx.toArray⟩] 31)) HOw3.out HG3.out)
              have HB3 : Hid (bl < w3.heap.size ∧ bo < w3.heap.size) := Lib.hid ⟨Nat.lt_of_lt_of_le HLB.out.1 HJ3.out.ext.size, Nat.lt_of_lt_of_le HLB.out.2 HJ3.out.ext.size⟩
              have HX3 := Lib.hid (HXI.out w3 HJ3.out.ext)
              have HY3 := Lib.hid (HYI.out w3 HJ3.out.ext)
              clear HJ HX HY HB HOw3 HG3 HOw HSz HF h1c
              have HJ := HJ3
              have HX := HX3
              have HY := HY3
              have HB := HB3
              clear HJ3 HX3 HY3 HB3
              have HEQ3 := Lib.hid (eq_x HA1.out HEQ.out)
              clear HEQ
              have HEQ := HEQ3
              clear HEQ3
              generalize w3 = W at *
              generalize ns ++ [(⟨kx, gx, dx, zx⟩ : Wr)] = ns at *
              go_upto_region 13 with (fail)
              refine wp_region_mono (by kernel_rfl) (by kernel_rfl) ?_
              refine tele_move rfl (.inl rfl) rfl (isV (.slice (some ⟨bo, oo, none⟩) os.length co)) (fun ρ w' h => h) ?_
              refine tele_move rfl (.inl rfl) rfl (isV (.int .i64 (k : Int))) (fun ρ w' h => h) ?_
              refine tele_val rfl (.pointer (some ⟨bo, oo + k * 4, none⟩)) (fun _ _ _ => rfl) ?_ ?_
              · rintro ρ w' he ⟨h41, h42, -⟩
                have e41 : ρ 41 = (.slice (some ⟨bo, oo, none⟩) os.length co) := h41
                have e42 : ρ 42 = (.int .i64 (k : Int)) := h42
                exact index_at (w := w') 4 rfl Try.underlying27 e41 e42 hko (by kernel_rfl)
              refine tele_val rfl (.agg #[strV ky, .int .i64 gy, .bool dy, strV zy]) (fun _ _ _ => rfl) ?_ ?_
              · rintro ρ w' he ⟨h43, -⟩
                have e43 : ρ 43 = (.pointer (some ⟨bo, oo + k * 4, none⟩)) := h43
                have c0 := (he.cell HB.out.2).trans HY.out.1
                have c1 := (he.cell HB.out.2).trans HY.out.2.1
                have c2 := (he.cell HB.out.2).trans HY.out.2.2.1
                have c3 := (he.cell HB.out.2).trans HY.out.2.2.2
                simp [execOp, evR, e43, c0, c1, c2, c3, go_sem]
              refine tele_move rfl (.inl rfl) rfl (isV (.slice (some ⟨bl, ol, none⟩) ws.length cl)) (fun ρ w' h => h) ?_
              refine tele_move rfl (.inl rfl) rfl (isV (.int .i64 (i : Int))) (fun ρ w' h => h) ?_
              refine tele_val rfl (.pointer (some ⟨bl, ol + i * 4, none⟩)) (fun _ _ _ => rfl) ?_ ?_
              · rintro ρ w' he ⟨h45, h46, -⟩
                have e45 : ρ 45 = (.slice (some ⟨bl, ol, none⟩) ws.length cl) := h45
                have e46 : ρ 46 = (.int .i64 (i : Int)) := h46
                exact index_at (w := w') 4 rfl Try.underlying27 e45 e46 hiw (by kernel_rfl)
              refine tele_val rfl (.agg #[strV kx, .int .i64 gx, .bool dx, strV zx]) (fun _ _ _ => rfl) ?_ ?_
              · rintro ρ w' he ⟨h47, -⟩
                have e47 : ρ 47 = (.pointer (some ⟨bl, ol + i * 4, none⟩)) := h47
                have c0 := (he.cell HB.out.1).trans HX.out.1
                have c1 := (he.cell HB.out.1).trans HX.out.2.1
                have c2 := (he.cell HB.out.1).trans HX.out.2.2.1
                have c3 := (he.cell HB.out.1).trans HX.out.2.2.2
                simp [execOp, evR, e47, c0, c1, c2, c3, go_sem]
              refine tele_call rfl rfl Try.func42 (by kernel_rfl) (isV (.bool false)) (fun _ _ _ => rfl) ?_ ?_
              · rintro ρ w' he ⟨h44, h48, -⟩
                have e44 : ρ 44 = (.agg #[strV ky, .int .i64 gy, .bool dy, strV zy]) := h44
                have e48 : ρ 48 = (.agg #[strV kx, .int .i64 gx, .bool dx, strV zx]) := h48
                simp only [evR, List.map_toArray, List.map_cons, List.map_nil, e44, e48]
                refine (H1.out _).mono ?_
                rintro e w'' ⟨rfl, hx⟩
                exact ⟨_, rfl, hx, rfl⟩
              refine tele_move rfl (.inl rfl) rfl (isV (.bool false)) (fun ρ w' h => h) ?_
              refine tele_val rfl ((.slice (some ⟨bl, ol, none⟩) ws.length cl)) (fun ρ w' hk => by obtain ⟨_, hg, -⟩ := hk; have eg : ρ 50 = (.bool false) := hg; simp [wantedR, Region.wanted, asBoolR, eg]) ?_ ?_
              · rintro ρ w' he ⟨h0, -⟩
                have e0 : ρ 0 = (.slice (some ⟨bl, ol, none⟩) ws.length cl) := h0
                simp [execOp, evR, e0]
              refine tele_val rfl ((.int .i64 (i : Int))) (fun ρ w' hk => by obtain ⟨_, hg, -⟩ := hk; have eg : ρ 50 = (.bool false) := hg; simp [wantedR, Region.wanted, asBoolR, eg]) ?_ ?_
              · rintro ρ w' he ⟨h4, -⟩
                have e4 : ρ 4 = (.int .i64 (i : Int)) := h4
                simp [execOp, evR, e4]
              refine tele_val rfl (.pointer (some ⟨bl, ol + i * 4, none⟩)) (fun ρ w' hk => by obtain ⟨_, _, hg, -⟩ := hk; have eg : ρ 50 = (.bool false) := hg; simp [wantedR, Region.wanted, asBoolR, eg]) ?_ ?_
              · rintro ρ w' he ⟨h51, h52, -⟩
                have e51 : ρ 51 = (.slice (some ⟨bl, ol, none⟩) ws.length cl) := h51
                have e52 : ρ 52 = (.int .i64 (i : Int)) := h52
                exact index_at (w := w') 4 rfl Try.underlying27 e51 e52 hiw (by kernel_rfl)
              refine tele_val rfl (.agg #[strV kx, .int .i64 gx, .bool dx, strV zx]) (fun ρ w' hk => by obtain ⟨_, hg, -⟩ := hk; have eg : ρ 50 = (.bool false) := hg; simp [wantedR, Region.wanted, asBoolR, eg]) ?_ ?_
              · rintro ρ w' he ⟨h53, -⟩
                have e53 : ρ 53 = (.pointer (some ⟨bl, ol + i * 4, none⟩)) := h53
                have c0 := (he.cell HB.out.1).trans HX.out.1
                have c1 := (he.cell HB.out.1).trans HX.out.2.1
                have c2 := (he.cell HB.out.1).trans HX.out.2.2.1
                have c3 := (he.cell HB.out.1).trans HX.out.2.2.2
                simp [execOp, evR, e53, c0, c1, c2, c3, go_sem]
              refine tele_val rfl ((.slice (some ⟨bo, oo, none⟩) os.length co)) (fun ρ w' hk => by obtain ⟨_, hg, -⟩ := hk; have eg : ρ 50 = (.bool false) := hg; simp [wantedR, Region.wanted, asBoolR, eg]) ?_ ?_
              · rintro ρ w' he ⟨h3, -⟩
                have e3 : ρ 3 = (.slice (some ⟨bo, oo, none⟩) os.length co) := h3
                simp [execOp, evR, e3]
              refine tele_val rfl ((.int .i64 (k : Int))) (fun ρ w' hk => by obtain ⟨_, hg, -⟩ := hk; have eg : ρ 50 = (.bool false) := hg; simp [wantedR, Region.wanted, asBoolR, eg]) ?_ ?_
              · rintro ρ w' he ⟨h7, -⟩
                have e7 : ρ 7 = (.int .i64 (k : Int)) := h7
                simp [execOp, evR, e7]
              refine tele_val rfl (.pointer (some ⟨bo, oo + k * 4, none⟩)) (fun ρ w' hk => by obtain ⟨_, _, hg, -⟩ := hk; have eg : ρ 50 = (.bool false) := hg; simp [wantedR, Region.wanted, asBoolR, eg]) ?_ ?_
              · rintro ρ w' he ⟨h55, h56, -⟩
                have e55 : ρ 55 = (.slice (some ⟨bo, oo, none⟩) os.length co) := h55
                have e56 : ρ 56 = (.int .i64 (k : Int)) := h56
                exact index_at (w := w') 4 rfl Try.underlying27 e55 e56 hko (by kernel_rfl)
              refine tele_val rfl (.agg #[strV ky, .int .i64 gy, .bool dy, strV zy]) (fun ρ w' hk => by obtain ⟨_, hg, -⟩ := hk; have eg : ρ 50 = (.bool false) := hg; simp [wantedR, Region.wanted, asBoolR, eg]) ?_ ?_
              · rintro ρ w' he ⟨h57, -⟩
                have e57 : ρ 57 = (.pointer (some ⟨bo, oo + k * 4, none⟩)) := h57
                have c0 := (he.cell HB.out.2).trans HY.out.1
                have c1 := (he.cell HB.out.2).trans HY.out.2.1
                have c2 := (he.cell HB.out.2).trans HY.out.2.2.1
                have c3 := (he.cell HB.out.2).trans HY.out.2.2.2
                simp [execOp, evR, e57, c0, c1, c2, c3, go_sem]
              refine tele_call rfl rfl Try.func42 (by kernel_rfl) (isV (.bool a2)) (fun ρ w' hk => by obtain ⟨_, _, hg, -⟩ := hk; have eg : ρ 50 = (.bool false) := hg; simp [wantedR, Region.wanted, asBoolR, eg]) ?_ ?_
              · rintro ρ w' he ⟨h54, h58, -⟩
                have e54 : ρ 54 = (.agg #[strV kx, .int .i64 gx, .bool dx, strV zx]) := h54
                have e58 : ρ 58 = (.agg #[strV ky, .int .i64 gy, .bool dy, strV zy]) := h58
                simp only [evR, List.map_toArray, List.map_cons, List.map_nil, e54, e58]
                refine (H2.out _).mono ?_
                rintro e w'' ⟨rfl, hx⟩
                exact ⟨_, rfl, hx, rfl⟩
              refine tele_val rfl (.bool a2) (fun _ _ _ => rfl) ?_ ?_
              · rintro ρ w' he ⟨h50, h59, -⟩
                have e50 : ρ 50 = (.bool false) := h50
                have e59 : ρ 59 = (.bool a2) := h59
                simp [execOp, evR, e50, e59, go_sem]
              refine tele_nil ?_
              rintro ρ w' hext ⟨f60, f59, f58, f57, f56, f55, f54, f53, f52, f51, f50, f49, f48, f47, f46, f45, f44, f43, f42, f41, -⟩
              replace f41 : ρ 41 = (.slice (some ⟨bo, oo, none⟩) os.length co) := f41
              replace f42 : ρ 42 = (.int .i64 (k : Int)) := f42
              replace f43 : ρ 43 = (.pointer (some ⟨bo, oo + k * 4, none⟩)) := f43
              replace f44 : ρ 44 = (.agg #[strV ky, .int .i64 gy, .bool dy, strV zy]) := f44
              replace f45 : ρ 45 = (.slice (some ⟨bl, ol, none⟩) ws.length cl) := f45
              replace f46 : ρ 46 = (.int .i64 (i : Int)) := f46
              replace f47 : ρ 47 = (.pointer (some ⟨bl, ol + i * 4, none⟩)) := f47
              replace f48 : ρ 48 = (.agg #[strV kx, .int .i64 gx, .bool dx, strV zx]) := f48
              replace f49 : ρ 49 = (.bool false) := f49
              replace f50 : ρ 50 = (.bool false) := f50
              replace f51 : ρ 51 = (.slice (some ⟨bl, ol, none⟩) ws.length cl) := f51
              replace f52 : ρ 52 = (.int .i64 (i : Int)) := f52
              replace f53 : ρ 53 = (.pointer (some ⟨bl, ol + i * 4, none⟩)) := f53
              replace f54 : ρ 54 = (.agg #[strV kx, .int .i64 gx, .bool dx, strV zx]) := f54
              replace f55 : ρ 55 = (.slice (some ⟨bo, oo, none⟩) os.length co) := f55
              replace f56 : ρ 56 = (.int .i64 (k : Int)) := f56
              replace f57 : ρ 57 = (.pointer (some ⟨bo, oo + k * 4, none⟩)) := f57
              replace f58 : ρ 58 = (.agg #[strV ky, .int .i64 gy, .bool dy, strV zy]) := f58
              replace f59 : ρ 59 = (.bool a2) := f59
              replace f60 : ρ 60 = (.bool a2) := f60
              simp only [puts, Act.put, List.setIfInBounds_toArray, List.set_cons_zero, List.set_cons_succ]
              rw [f60]
              clear f41
              clear f42
              clear f43
              clear f44
              clear f45
              clear f46
              clear f47
              clear f48
              clear f49
              clear f50
              clear f51
              clear f52
              clear f53
              clear f54
              clear f55
              clear f56
              clear f57
              clear f58
              clear f59
              clear f60
              have HJ1 := Lib.hid (HJ.out.more hext)
              have HX1 := Lib.hid (show _ ∧ _ ∧ _ ∧ _ from ⟨(hext.cell HB.out.1).trans HX.out.1, (hext.cell HB.out.1).trans HX.out.2.1, (hext.cell HB.out.1).trans HX.out.2.2.1, (hext.cell HB.out.1).trans HX.out.2.2.2⟩)
              have HY1 := Lib.hid (show _ ∧ _ ∧ _ ∧ _ from ⟨(hext.cell HB.out.2).trans HY.out.1, (hext.cell HB.out.2).trans HY.out.2.1, (hext.cell HB.out.2).trans HY.out.2.2.1, (hext.cell HB.out.2).trans HY.out.2.2.2⟩)
              have HB1 : Hid (bl < w'.heap.size ∧ bo < w'.heap.size) := Lib.hid ⟨Nat.lt_of_lt_of_le HB.out.1 hext.size, Nat.lt_of_lt_of_le HB.out.2 hext.size⟩
              clear HJ HX HY HB hext
              have HJ := HJ1
              have HX := HX1
              have HY := HY1
              have HB := HB1
              clear HJ1 HX1 HY1 HB1
              generalize w' = W at *
              cases a2
              ·have HEQ3 := Lib.hid (eq_skip HA1.out HA2.out HEQ.out)
               clear HEQ
               have HEQ := HEQ3
               clear HEQ3
               go_wp2_with fail
               go_roundw
               case rel => exact ⟨k + 1, true, _, _, by omega, rfl, by go_num, rfl, HJ, HEQ⟩
               case measure => simp [intOf]; omega
              ·have p0 := HY.out.1
               have p1 := HY.out.2.1
               have p2 := HY.out.2.2.1
               have p3 := HY.out.2.2.2
               have nl := HJ.out.ns_le HEQ.out
               unfold strV at p0 p3
               have blk := Blk.new W #[.string ⟨ky.toArray⟩, .int .i64 gy, .bool dy, .string ⟨zy.toArray⟩] 31
               have hF : Fl (W.alloc (.cells #[.string ⟨ky.toArray⟩, .int .i64 gy, .bool dy, .string ⟨zy.toArray⟩] 31)) (.slice (some ⟨W.heap.size, 0, none⟩) 1 1) 1 [.string ⟨ky.toArray⟩, .int .i64 gy, .bool dy, .string ⟨zy.toArray⟩] := ⟨_, 1, rfl, Nat.le_refl _, by decide, by simp, fun _ => ⟨_, 0, rfl, blk.lt, fun j u hu => by rw [Nat.zero_add]; exact blk.cell (i := j) hu⟩⟩
               have HF := Lib.hid hF
               have HOw := Lib.hid (HJ.out.more (ext_alloc W (.cells #[.string ⟨ky.toArray⟩, .int .i64 gy, .bool dy, .string ⟨zy.toArray⟩] 31))).row
               have HSz := Lib.hid (HJ.out.more (ext_alloc W (.cells #[.string ⟨ky.toArray⟩, .int .i64 gy, .bool dy, .string ⟨zy.toArray⟩] 31))).ext.size
               have h1c : ∀ u ∈ ([.string ⟨ky.toArray⟩, .int .i64 gy, .bool dy, .string ⟨zy.toArray⟩] : List Value), u.oneCell' = true := by intro u hu; simp only [List.mem_cons, List.not_mem_nil, or_false] at hu; rcases hu with rfl | rfl | rfl | rfl <;> rfl
               clear blk hF
               go_upto_region 9 with (at_builtin; refine wpList_append_fl rfl (.tmp 61) (.tmp 66) 27 rfl Wi.heap.size 31 i0 _ 4 48 Try.underlying27 HI0.out HZ0.out HZ1.out HZ2.out rfl (by decide) HOw.out HF.out rfl rfl rfl h1c (by unfold maxLen; omega) (by omega) HSz.out ?_; intro v' w3 hown' hg hat; clear hat p0 p1 p2 p3; have HOw3 := Lib.hid hown'; have HG3 := Lib.hid hg; clear hown' hg)
               clear nl
               have HJ3 := Lib.hid (HJ.out.add (x := ⟨ky, gy, dy, zy⟩) (ext_alloc W (.cells #[.string ⟨ky.toArray⟩, .int .i64 gy, .bool dy, .string ⟨zy.toArray⟩] 31)) HOw3.out HG3.out)
               have HB3 : Hid (bl < w3.heap.size ∧ bo < w3.heap.size) := Lib.hid ⟨Nat.lt_of_lt_of_le HLB.out.1 HJ3.out.ext.size, Nat.lt_of_lt_of_le HLB.out.2 HJ3.out.ext.size⟩
               have HX3 := Lib.hid (HXI.out w3 HJ3.out.ext)
               have HY3 := Lib.hid (HYI.out w3 HJ3.out.ext)
               clear HJ HX HY HB HOw3 HG3 HOw HSz HF h1c
               have HJ := HJ3
               have HX := HX3
               have HY := HY3
               have HB := HB3
               clear HJ3 HX3 HY3 HB3
               have HEQ3 := Lib.hid (eq_y (.inr HA2.out) HEQ.out)
               clear HEQ
               have HEQ := HEQ3
               clear HEQ3
               generalize w3 = W at *
               generalize ns ++ [(⟨ky, gy, dy, zy⟩ : Wr)] = ns at *
               go_wp2_with fail
               go_roundw
               case rel => exact ⟨k + 1, true, _, _, by omega, rfl, by go_num, rfl, HJ, HEQ⟩
               case measure => simp [intOf]; omega
            · go_upto_region 10 with (fail)
              refine wp_region_mono (by kernel_rfl) (by kernel_rfl) ?_
              refine tele_move rfl (.inl rfl) rfl (isV (.bool false)) (fun ρ w' h => h) ?_
              refine tele_val rfl (.bool true) (fun _ _ _ => rfl) ?_ ?_
              · rintro ρ w' he ⟨h20, -⟩
                have e20 : ρ 20 = (.bool false) := h20
                simp [execOp, evR, e20, go_sem]
              refine tele_move rfl (.inl rfl) rfl (isV (.bool true)) (fun ρ w' h => h) ?_
              refine tele_val rfl ((.slice (some ⟨bo, oo, none⟩) os.length co)) (fun ρ w' hk => by obtain ⟨_, hg, -⟩ := hk; have eg : ρ 22 = (.bool true) := hg; simp [wantedR, Region.wanted, asBoolR, eg]) ?_ ?_
              · rintro ρ w' he ⟨h3, -⟩
                have e3 : ρ 3 = (.slice (some ⟨bo, oo, none⟩) os.length co) := h3
                simp [execOp, evR, e3]
              refine tele_val rfl ((.int .i64 (k : Int))) (fun ρ w' hk => by obtain ⟨_, hg, -⟩ := hk; have eg : ρ 22 = (.bool true) := hg; simp [wantedR, Region.wanted, asBoolR, eg]) ?_ ?_
              · rintro ρ w' he ⟨h7, -⟩
                have e7 : ρ 7 = (.int .i64 (k : Int)) := h7
                simp [execOp, evR, e7]
              refine tele_val rfl (.pointer (some ⟨bo, oo + k * 4, none⟩)) (fun ρ w' hk => by obtain ⟨_, _, hg, -⟩ := hk; have eg : ρ 22 = (.bool true) := hg; simp [wantedR, Region.wanted, asBoolR, eg]) ?_ ?_
              · rintro ρ w' he ⟨h23, h24, -⟩
                have e23 : ρ 23 = (.slice (some ⟨bo, oo, none⟩) os.length co) := h23
                have e24 : ρ 24 = (.int .i64 (k : Int)) := h24
                exact index_at (w := w') 4 rfl Try.underlying27 e23 e24 hko (by kernel_rfl)
              refine tele_val rfl (.agg #[strV ky, .int .i64 gy, .bool dy, strV zy]) (fun ρ w' hk => by obtain ⟨_, hg, -⟩ := hk; have eg : ρ 22 = (.bool true) := hg; simp [wantedR, Region.wanted, asBoolR, eg]) ?_ ?_
              · rintro ρ w' he ⟨h25, -⟩
                have e25 : ρ 25 = (.pointer (some ⟨bo, oo + k * 4, none⟩)) := h25
                have c0 := (he.cell HB.out.2).trans HY.out.1
                have c1 := (he.cell HB.out.2).trans HY.out.2.1
                have c2 := (he.cell HB.out.2).trans HY.out.2.2.1
                have c3 := (he.cell HB.out.2).trans HY.out.2.2.2
                simp [execOp, evR, e25, c0, c1, c2, c3, go_sem]
              refine tele_val rfl ((.slice (some ⟨bl, ol, none⟩) ws.length cl)) (fun ρ w' hk => by obtain ⟨_, hg, -⟩ := hk; have eg : ρ 22 = (.bool true) := hg; simp [wantedR, Region.wanted, asBoolR, eg]) ?_ ?_
              · rintro ρ w' he ⟨h0, -⟩
                have e0 : ρ 0 = (.slice (some ⟨bl, ol, none⟩) ws.length cl) := h0
                simp [execOp, evR, e0]
              refine tele_val rfl ((.int .i64 (i : Int))) (fun ρ w' hk => by obtain ⟨_, hg, -⟩ := hk; have eg : ρ 22 = (.bool true) := hg; simp [wantedR, Region.wanted, asBoolR, eg]) ?_ ?_
              · rintro ρ w' he ⟨h4, -⟩
                have e4 : ρ 4 = (.int .i64 (i : Int)) := h4
                simp [execOp, evR, e4]
              refine tele_val rfl (.pointer (some ⟨bl, ol + i * 4, none⟩)) (fun ρ w' hk => by obtain ⟨_, _, hg, -⟩ := hk; have eg : ρ 22 = (.bool true) := hg; simp [wantedR, Region.wanted, asBoolR, eg]) ?_ ?_
              · rintro ρ w' he ⟨h27, h28, -⟩
                have e27 : ρ 27 = (.slice (some ⟨bl, ol, none⟩) ws.length cl) := h27
                have e28 : ρ 28 = (.int .i64 (i : Int)) := h28
                exact index_at (w := w') 4 rfl Try.underlying27 e27 e28 hiw (by kernel_rfl)
              refine tele_val rfl (.agg #[strV kx, .int .i64 gx, .bool dx, strV zx]) (fun ρ w' hk => by obtain ⟨_, hg, -⟩ := hk; have eg : ρ 22 = (.bool true) := hg; simp [wantedR, Region.wanted, asBoolR, eg]) ?_ ?_
              · rintro ρ w' he ⟨h29, -⟩
                have e29 : ρ 29 = (.pointer (some ⟨bl, ol + i * 4, none⟩)) := h29
                have c0 := (he.cell HB.out.1).trans HX.out.1
                have c1 := (he.cell HB.out.1).trans HX.out.2.1
                have c2 := (he.cell HB.out.1).trans HX.out.2.2.1
                have c3 := (he.cell HB.out.1).trans HX.out.2.2.2
                simp [execOp, evR, e29, c0, c1, c2, c3, go_sem]
              refine tele_call rfl rfl Try.func42 (by kernel_rfl) (isV (.bool true)) (fun ρ w' hk => by obtain ⟨_, _, hg, -⟩ := hk; have eg : ρ 22 = (.bool true) := hg; simp [wantedR, Region.wanted, asBoolR, eg]) ?_ ?_
              · rintro ρ w' he ⟨h26, h30, -⟩
                have e26 : ρ 26 = (.agg #[strV ky, .int .i64 gy, .bool dy, strV zy]) := h26
                have e30 : ρ 30 = (.agg #[strV kx, .int .i64 gx, .bool dx, strV zx]) := h30
                simp only [evR, List.map_toArray, List.map_cons, List.map_nil, e26, e30]
                refine (H1.out _).mono ?_
                rintro e w'' ⟨rfl, hx⟩
                exact ⟨_, rfl, hx, rfl⟩
              refine tele_val rfl (.bool false) (fun ρ w' hk => by obtain ⟨_, hg, -⟩ := hk; have eg : ρ 22 = (.bool true) := hg; simp [wantedR, Region.wanted, asBoolR, eg]) ?_ ?_
              · rintro ρ w' he ⟨h31, -⟩
                have e31 : ρ 31 = (.bool true) := h31
                simp [execOp, evR, e31, go_sem]
              refine tele_val rfl (.bool false) (fun _ _ _ => rfl) ?_ ?_
              · rintro ρ w' he ⟨h22, h32, -⟩
                have e22 : ρ 22 = (.bool true) := h22
                have e32 : ρ 32 = (.bool false) := h32
                simp [execOp, evR, e22, e32, go_sem]
              refine tele_nil ?_
              rintro ρ w' hext ⟨f33, f32, f31, f30, f29, f28, f27, f26, f25, f24, f23, f22, f21, f20, -⟩
              replace f20 : ρ 20 = (.bool false) := f20
              replace f21 : ρ 21 = (.bool true) := f21
              replace f22 : ρ 22 = (.bool true) := f22
              replace f23 : ρ 23 = (.slice (some ⟨bo, oo, none⟩) os.length co) := f23
              replace f24 : ρ 24 = (.int .i64 (k : Int)) := f24
              replace f25 : ρ 25 = (.pointer (some ⟨bo, oo + k * 4, none⟩)) := f25
              replace f26 : ρ 26 = (.agg #[strV ky, .int .i64 gy, .bool dy, strV zy]) := f26
              replace f27 : ρ 27 = (.slice (some ⟨bl, ol, none⟩) ws.length cl) := f27
              replace f28 : ρ 28 = (.int .i64 (i : Int)) := f28
              replace f29 : ρ 29 = (.pointer (some ⟨bl, ol + i * 4, none⟩)) := f29
              replace f30 : ρ 30 = (.agg #[strV kx, .int .i64 gx, .bool dx, strV zx]) := f30
              replace f31 : ρ 31 = (.bool true) := f31
              replace f32 : ρ 32 = (.bool false) := f32
              replace f33 : ρ 33 = (.bool false) := f33
              simp only [puts, Act.put, List.setIfInBounds_toArray, List.set_cons_zero, List.set_cons_succ]
              rw [f33]
              clear f20
              clear f21
              clear f22
              clear f23
              clear f24
              clear f25
              clear f26
              clear f27
              clear f28
              clear f29
              clear f30
              clear f31
              clear f32
              clear f33
              have HJ1 := Lib.hid (HJ.out.more hext)
              have HX1 := Lib.hid (show _ ∧ _ ∧ _ ∧ _ from ⟨(hext.cell HB.out.1).trans HX.out.1, (hext.cell HB.out.1).trans HX.out.2.1, (hext.cell HB.out.1).trans HX.out.2.2.1, (hext.cell HB.out.1).trans HX.out.2.2.2⟩)
              have HY1 := Lib.hid (show _ ∧ _ ∧ _ ∧ _ from ⟨(hext.cell HB.out.2).trans HY.out.1, (hext.cell HB.out.2).trans HY.out.2.1, (hext.cell HB.out.2).trans HY.out.2.2.1, (hext.cell HB.out.2).trans HY.out.2.2.2⟩)
              have HB1 : Hid (bl < w'.heap.size ∧ bo < w'.heap.size) := Lib.hid ⟨Nat.lt_of_lt_of_le HB.out.1 hext.size, Nat.lt_of_lt_of_le HB.out.2 hext.size⟩
              clear HJ HX HY HB hext
              have HJ := HJ1
              have HX := HX1
              have HY := HY1
              have HB := HB1
              clear HJ1 HX1 HY1 HB1
              generalize w' = W at *
              have HEQ3 := Lib.hid (eq_0 (.inr HA1.out) HEQ.out)
              clear HEQ
              have HEQ := HEQ3
              clear HEQ3
              go_upto_region 13 with (fail)
              refine wp_region_mono (by kernel_rfl) (by kernel_rfl) ?_
              refine tele_move rfl (.inl rfl) rfl (isV (.slice (some ⟨bo, oo, none⟩) os.length co)) (fun ρ w' h => h) ?_
              refine tele_move rfl (.inl rfl) rfl (isV (.int .i64 (k : Int))) (fun ρ w' h => h) ?_
              refine tele_val rfl (.pointer (some ⟨bo, oo + k * 4, none⟩)) (fun _ _ _ => rfl) ?_ ?_
              · rintro ρ w' he ⟨h41, h42, -⟩
                have e41 : ρ 41 = (.slice (some ⟨bo, oo, none⟩) os.length co) := h41
                have e42 : ρ 42 = (.int .i64 (k : Int)) := h42
                exact index_at (w := w') 4 rfl Try.underlying27 e41 e42 hko (by kernel_rfl)
              refine tele_val rfl (.agg #[strV ky, .int .i64 gy, .bool dy, strV zy]) (fun _ _ _ => rfl) ?_ ?_
              · rintro ρ w' he ⟨h43, -⟩
                have e43 : ρ 43 = (.pointer (some ⟨bo, oo + k * 4, none⟩)) := h43
                have c0 := (he.cell HB.out.2).trans HY.out.1
                have c1 := (he.cell HB.out.2).trans HY.out.2.1
                have c2 := (he.cell HB.out.2).trans HY.out.2.2.1
                have c3 := (he.cell HB.out.2).trans HY.out.2.2.2
                simp [execOp, evR, e43, c0, c1, c2, c3, go_sem]
              refine tele_move rfl (.inl rfl) rfl (isV (.slice (some ⟨bl, ol, none⟩) ws.length cl)) (fun ρ w' h => h) ?_
              refine tele_move rfl (.inl rfl) rfl (isV (.int .i64 (i : Int))) (fun ρ w' h => h) ?_
              refine tele_val rfl (.pointer (some ⟨bl, ol + i * 4, none⟩)) (fun _ _ _ => rfl) ?_ ?_
              · rintro ρ w' he ⟨h45, h46, -⟩
                have e45 : ρ 45 = (.slice (some ⟨bl, ol, none⟩) ws.length cl) := h45
                have e46 : ρ 46 = (.int .i64 (i : Int)) := h46
                exact index_at (w := w') 4 rfl Try.underlying27 e45 e46 hiw (by kernel_rfl)
              refine tele_val rfl (.agg #[strV kx, .int .i64 gx, .bool dx, strV zx]) (fun _ _ _ => rfl) ?_ ?_
              · rintro ρ w' he ⟨h47, -⟩
                have e47 : ρ 47 = (.pointer (some ⟨bl, ol + i * 4, none⟩)) := h47
                have c0 := (he.cell HB.out.1).trans HX.out.1
                have c1 := (he.cell HB.out.1).trans HX.out.2.1
                have c2 := (he.cell HB.out.1).trans HX.out.2.2.1
                have c3 := (he.cell HB.out.1).trans HX.out.2.2.2
                simp [execOp, evR, e47, c0, c1, c2, c3, go_sem]
              refine tele_call rfl rfl Try.func42 (by kernel_rfl) (isV (.bool true)) (fun _ _ _ => rfl) ?_ ?_
              · rintro ρ w' he ⟨h44, h48, -⟩
                have e44 : ρ 44 = (.agg #[strV ky, .int .i64 gy, .bool dy, strV zy]) := h44
                have e48 : ρ 48 = (.agg #[strV kx, .int .i64 gx, .bool dx, strV zx]) := h48
                simp only [evR, List.map_toArray, List.map_cons, List.map_nil, e44, e48]
                refine (H1.out _).mono ?_
                rintro e w'' ⟨rfl, hx⟩
                exact ⟨_, rfl, hx, rfl⟩
              refine tele_move rfl (.inl rfl) rfl (isV (.bool true)) (fun ρ w' h => h) ?_
              refine tele_pass rfl (fun ρ w' hk => by obtain ⟨_, hg, -⟩ := hk; have eg : ρ 50 = (.bool true) := hg; simp [wantedR, Region.wanted, asBoolR, eg]) ?_
              refine tele_pass rfl (fun ρ w' hk => by obtain ⟨_, hg, -⟩ := hk; have eg : ρ 50 = (.bool true) := hg; simp [wantedR, Region.wanted, asBoolR, eg]) ?_
              refine tele_pass rfl (fun ρ w' hk => by obtain ⟨_, _, hg, -⟩ := hk; have eg : ρ 50 = (.bool true) := hg; simp [wantedR, Region.wanted, asBoolR, eg]) ?_
              refine tele_pass rfl (fun ρ w' hk => by obtain ⟨_, hg, -⟩ := hk; have eg : ρ 50 = (.bool true) := hg; simp [wantedR, Region.wanted, asBoolR, eg]) ?_
              refine tele_pass rfl (fun ρ w' hk => by obtain ⟨_, hg, -⟩ := hk; have eg : ρ 50 = (.bool true) := hg; simp [wantedR, Region.wanted, asBoolR, eg]) ?_
              refine tele_pass rfl (fun ρ w' hk => by obtain ⟨_, hg, -⟩ := hk; have eg : ρ 50 = (.bool true) := hg; simp [wantedR, Region.wanted, asBoolR, eg]) ?_
              refine tele_pass rfl (fun ρ w' hk => by obtain ⟨_, _, hg, -⟩ := hk; have eg : ρ 50 = (.bool true) := hg; simp [wantedR, Region.wanted, asBoolR, eg]) ?_
              refine tele_pass rfl (fun ρ w' hk => by obtain ⟨_, hg, -⟩ := hk; have eg : ρ 50 = (.bool true) := hg; simp [wantedR, Region.wanted, asBoolR, eg]) ?_
              refine tele_pass rfl (fun ρ w' hk => by obtain ⟨_, _, hg, -⟩ := hk; have eg : ρ 50 = (.bool true) := hg; simp [wantedR, Region.wanted, asBoolR, eg]) ?_
              refine tele_val rfl (.bool true) (fun _ _ _ => rfl) ?_ ?_
              · rintro ρ w' he ⟨h50, h59, -⟩
                have e50 : ρ 50 = (.bool true) := h50
                have e59 : ρ 59 = undef := h59
                simp [execOp, evR, e50, e59, go_sem]
              refine tele_nil ?_
              rintro ρ w' hext ⟨f60, f59, f58, f57, f56, f55, f54, f53, f52, f51, f50, f49, f48, f47, f46, f45, f44, f43, f42, f41, -⟩
              replace f41 : ρ 41 = (.slice (some ⟨bo, oo, none⟩) os.length co) := f41
              replace f42 : ρ 42 = (.int .i64 (k : Int)) := f42
              replace f43 : ρ 43 = (.pointer (some ⟨bo, oo + k * 4, none⟩)) := f43
              replace f44 : ρ 44 = (.agg #[strV ky, .int .i64 gy, .bool dy, strV zy]) := f44
              replace f45 : ρ 45 = (.slice (some ⟨bl, ol, none⟩) ws.length cl) := f45
              replace f46 : ρ 46 = (.int .i64 (i : Int)) := f46
              replace f47 : ρ 47 = (.pointer (some ⟨bl, ol + i * 4, none⟩)) := f47
              replace f48 : ρ 48 = (.agg #[strV kx, .int .i64 gx, .bool dx, strV zx]) := f48
              replace f49 : ρ 49 = (.bool true) := f49
              replace f50 : ρ 50 = (.bool true) := f50
              replace f51 : ρ 51 = undef := f51
              replace f52 : ρ 52 = undef := f52
              replace f53 : ρ 53 = undef := f53
              replace f54 : ρ 54 = undef := f54
              replace f55 : ρ 55 = undef := f55
              replace f56 : ρ 56 = undef := f56
              replace f57 : ρ 57 = undef := f57
              replace f58 : ρ 58 = undef := f58
              replace f59 : ρ 59 = undef := f59
              replace f60 : ρ 60 = (.bool true) := f60
              simp only [puts, Act.put, List.setIfInBounds_toArray, List.set_cons_zero, List.set_cons_succ]
              rw [f60]
              clear f41
              clear f42
              clear f43
              clear f44
              clear f45
              clear f46
              clear f47
              clear f48
              clear f49
              clear f50
              clear f51
              clear f52
              clear f53
              clear f54
              clear f55
              clear f56
              clear f57
              clear f58
              clear f59
              clear f60
              have HJ1 := Lib.hid (HJ.out.more hext)
              have HX1 := Lib.hid (show _ ∧ _ ∧ _ ∧ _ from ⟨(hext.cell HB.out.1).trans HX.out.1, (hext.cell HB.out.1).trans HX.out.2.1, (hext.cell HB.out.1).trans HX.out.2.2.1, (hext.cell HB.out.1).trans HX.out.2.2.2⟩)
              have HY1 := Lib.hid (show _ ∧ _ ∧ _ ∧ _ from ⟨(hext.cell HB.out.2).trans HY.out.1, (hext.cell HB.out.2).trans HY.out.2.1, (hext.cell HB.out.2).trans HY.out.2.2.1, (hext.cell HB.out.2).trans HY.out.2.2.2⟩)
              have HB1 : Hid (bl < w'.heap.size ∧ bo < w'.heap.size) := Lib.hid ⟨Nat.lt_of_lt_of_le HB.out.1 hext.size, Nat.lt_of_lt_of_le HB.out.2 hext.size⟩
              clear HJ HX HY HB hext
              have HJ := HJ1
              have HX := HX1
              have HY := HY1
              have HB := HB1
              clear HJ1 HX1 HY1 HB1
              generalize w' = W at *
              have p0 := HY.out.1
              have p1 := HY.out.2.1
              have p2 := HY.out.2.2.1
              have p3 := HY.out.2.2.2
              have nl := HJ.out.ns_le HEQ.out
              unfold strV at p0 p3
              have blk := Blk.new W #[.string ⟨ky.toArray⟩, .int .i64 gy, .bool dy, .string ⟨zy.toArray⟩] 31
              have hF : Fl (W.alloc (.cells #[.string ⟨ky.toArray⟩, .int .i64 gy, .bool dy, .string ⟨zy.toArray⟩] 31)) (.slice (some ⟨W.heap.size, 0, none⟩) 1 1) 1 [.string ⟨ky.toArray⟩, .int .i64 gy, .bool dy, .string ⟨zy.toArray⟩] := ⟨_, 1, rfl, Nat.le_refl _, by decide, by simp, fun _ => ⟨_, 0, rfl, blk.lt, fun j u hu => by rw [Nat.zero_add]; exact blk.cell (i := j) hu⟩⟩
              have HF := Lib.hid hF
              have HOw := Lib.hid (HJ.out.more (ext_alloc W (.cells #[.string ⟨ky.toArray⟩, .int .i64 gy, .bool dy, .string ⟨zy.toArray⟩] 31))).row
              have HSz := Lib.hid (HJ.out.more (ext_alloc W (.cells #[.string ⟨ky.toArray⟩, .int .i64 gy, .bool dy, .string ⟨zy.toArray⟩] 31))).ext.size
              have h1c : ∀ u ∈ ([.string ⟨ky.toArray⟩, .int .i64 gy, .bool dy, .string ⟨zy.toArray⟩] : List Value), u.oneCell' = true := by intro u hu; simp only [List.mem_cons, List.not_mem_nil, or_false] at hu; rcases hu with rfl | rfl | rfl | rfl <;> rfl
              clear blk hF
              go_upto_region 9 with (at_builtin; refine wpList_append_fl rfl (.tmp 61) (.tmp 66) 27 rfl Wi.heap.size 31 i0 _ 4 48 Try.underlying27 HI0.out HZ0.out HZ1.out HZ2.out rfl (by decide) HOw.out HF.out rfl rfl rfl h1c (by unfold maxLen; omega) (by omega) HSz.out ?_; intro v' w3 hown' hg hat; clear hat p0 p1 p2 p3; have HOw3 := Lib.hid hown'; have HG3 := Lib.hid hg; clear hown' hg)
              clear nl
              have HJ3 := Lib.hid (HJ.out.add (x := ⟨ky, gy, dy, zy⟩) (ext_alloc W (.cells #[.string ⟨ky.toArray⟩, .int .i64 gy, .bool dy, .string ⟨zy.toArray⟩] 31)) HOw3.out HG3.out)
              have HB3 : Hid (bl < w3.heap.size ∧ bo < w3.heap.size) := Lib.hid ⟨Nat.lt_of_lt_of_le HLB.out.1 HJ3.out.ext.size, Nat.lt_of_lt_of_le HLB.out.2 HJ3.out.ext.size⟩
              have HX3 := Lib.hid (HXI.out w3 HJ3.out.ext)
              have HY3 := Lib.hid (HYI.out w3 HJ3.out.ext)
              clear HJ HX HY HB HOw3 HG3 HOw HSz HF h1c
              have HJ := HJ3
              have HX := HX3
              have HY := HY3
              have HB := HB3
              clear HJ3 HX3 HY3 HB3
              have HEQ3 := Lib.hid (eq_y (.inl HA1.out) HEQ.out)
              clear HEQ
              have HEQ := HEQ3
              clear HEQ3
              generalize w3 = W at *
              generalize ns ++ [(⟨ky, gy, dy, zy⟩ : Wr)] = ns at *
              go_wp2_with fail
              go_roundw
              case rel => exact ⟨k + 1, false, _, _, by omega, rfl, by go_num, rfl, HJ, HEQ⟩
              case measure => simp [intOf]; omega
          · cases a1
            · go_upto_region 10 with (fail)
              refine wp_region_mono (by kernel_rfl) (by kernel_rfl) ?_
              refine tele_move rfl (.inl rfl) rfl (isV (.bool true)) (fun ρ w' h => h) ?_
              refine tele_val rfl (.bool false) (fun _ _ _ => rfl) ?_ ?_
              · rintro ρ w' he ⟨h20, -⟩
                have e20 : ρ 20 = (.bool true) := h20
                simp [execOp, evR, e20, go_sem]
              refine tele_move rfl (.inl rfl) rfl (isV (.bool false)) (fun ρ w' h => h) ?_
              refine tele_pass rfl (fun ρ w' hk => by obtain ⟨_, hg, -⟩ := hk; have eg : ρ 22 = (.bool false) := hg; simp [wantedR, Region.wanted, asBoolR, eg]) ?_
              refine tele_pass rfl (fun ρ w' hk => by obtain ⟨_, hg, -⟩ := hk; have eg : ρ 22 = (.bool false) := hg; simp [wantedR, Region.wanted, asBoolR, eg]) ?_
              refine tele_pass rfl (fun ρ w' hk => by obtain ⟨_, _, hg, -⟩ := hk; have eg : ρ 22 = (.bool false) := hg; simp [wantedR, Region.wanted, asBoolR, eg]) ?_
              refine tele_pass rfl (fun ρ w' hk => by obtain ⟨_, hg, -⟩ := hk; have eg : ρ 22 = (.bool false) := hg; simp [wantedR, Region.wanted, asBoolR, eg]) ?_
              refine tele_pass rfl (fun ρ w' hk => by obtain ⟨_, hg, -⟩ := hk; have eg : ρ 22 = (.bool false) := hg; simp [wantedR, Region.wanted, asBoolR, eg]) ?_
              refine tele_pass rfl (fun ρ w' hk => by obtain ⟨_, hg, -⟩ := hk; have eg : ρ 22 = (.bool false) := hg; simp [wantedR, Region.wanted, asBoolR, eg]) ?_
              refine tele_pass rfl (fun ρ w' hk => by obtain ⟨_, _, hg, -⟩ := hk; have eg : ρ 22 = (.bool false) := hg; simp [wantedR, Region.wanted, asBoolR, eg]) ?_
              refine tele_pass rfl (fun ρ w' hk => by obtain ⟨_, hg, -⟩ := hk; have eg : ρ 22 = (.bool false) := hg; simp [wantedR, Region.wanted, asBoolR, eg]) ?_
              refine tele_pass rfl (fun ρ w' hk => by obtain ⟨_, _, hg, -⟩ := hk; have eg : ρ 22 = (.bool false) := hg; simp [wantedR, Region.wanted, asBoolR, eg]) ?_
              refine tele_pass rfl (fun ρ w' hk => by obtain ⟨_, hg, -⟩ := hk; have eg : ρ 22 = (.bool false) := hg; simp [wantedR, Region.wanted, asBoolR, eg]) ?_
              refine tele_val rfl (.bool false) (fun _ _ _ => rfl) ?_ ?_
              · rintro ρ w' he ⟨h22, h32, -⟩
                have e22 : ρ 22 = (.bool false) := h22
                have e32 : ρ 32 = undef := h32
                simp [execOp, evR, e22, e32, go_sem]
              refine tele_nil ?_
              rintro ρ w' hext ⟨f33, f32, f31, f30, f29, f28, f27, f26, f25, f24, f23, f22, f21, f20, -⟩
              replace f20 : ρ 20 = (.bool true) := f20
              replace f21 : ρ 21 = (.bool false) := f21
              replace f22 : ρ 22 = (.bool false) := f22
              replace f23 : ρ 23 = undef := f23
              replace f24 : ρ 24 = undef := f24
              replace f25 : ρ 25 = undef := f25
              replace f26 : ρ 26 = undef := f26
              replace f27 : ρ 27 = undef := f27
              replace f28 : ρ 28 = undef := f28
              replace f29 : ρ 29 = undef := f29
              replace f30 : ρ 30 = undef := f30
              replace f31 : ρ 31 = undef := f31
              replace f32 : ρ 32 = undef := f32
              replace f33 : ρ 33 = (.bool false) := f33
              simp only [puts, Act.put, List.setIfInBounds_toArray, List.set_cons_zero, List.set_cons_succ]
              rw [f33]
              clear f20
              clear f21
              clear f22
              clear f23
              clear f24
              clear f25
              clear f26
              clear f27
              clear f28
              clear f29
              clear f30
              clear f31
              clear f32
              clear f33
              have HJ1 := Lib.hid (HJ.out.more hext)
              have HX1 := Lib.hid (show _ ∧ _ ∧ _ ∧ _ from ⟨(hext.cell HB.out.1).trans HX.out.1, (hext.cell HB.out.1).trans HX.out.2.1, (hext.cell HB.out.1).trans HX.out.2.2.1, (hext.cell HB.out.1).trans HX.out.2.2.2⟩)
              have HY1 := Lib.hid (show _ ∧ _ ∧ _ ∧ _ from ⟨(hext.cell HB.out.2).trans HY.out.1, (hext.cell HB.out.2).trans HY.out.2.1, (hext.cell HB.out.2).trans HY.out.2.2.1, (hext.cell HB.out.2).trans HY.out.2.2.2⟩)
              have HB1 : Hid (bl < w'.heap.size ∧ bo < w'.heap.size) := Lib.hid ⟨Nat.lt_of_lt_of_le HB.out.1 hext.size, Nat.lt_of_lt_of_le HB.out.2 hext.size⟩
              clear HJ HX HY HB hext
              have HJ := HJ1
              have HX := HX1
              have HY := HY1
              have HB := HB1
              clear HJ1 HX1 HY1 HB1
              generalize w' = W at *
              have HEQ3 := Lib.hid (eq_0 (.inl rfl) HEQ.out)
              clear HEQ
              have HEQ := HEQ3
              clear HEQ3
              go_upto_region 13 with (fail)
              refine wp_region_mono (by kernel_rfl) (by kernel_rfl) ?_
              refine tele_move rfl (.inl rfl) rfl (isV (.slice (some ⟨bo, oo, none⟩) os.length co)) (fun ρ w' h => h) ?_
              refine tele_move rfl (.inl rfl) rfl (isV (.int .i64 (k : Int))) (fun ρ w' h => h) ?_
              refine tele_val rfl (.pointer (some ⟨bo, oo + k * 4, none⟩)) (fun _ _ _ => rfl) ?_ ?_
              · rintro ρ w' he ⟨h41, h42, -⟩
                have e41 : ρ 41 = (.slice (some ⟨bo, oo, none⟩) os.length co) := h41
                have e42 : ρ 42 = (.int .i64 (k : Int)) := h42
                exact index_at (w := w') 4 rfl Try.underlying27 e41 e42 hko (by kernel_rfl)
              refine tele_val rfl (.agg #[strV ky, .int .i64 gy, .bool dy, strV zy]) (fun _ _ _ => rfl) ?_ ?_
              · rintro ρ w' he ⟨h43, -⟩
                have e43 : ρ 43 = (.pointer (some ⟨bo, oo + k * 4, none⟩)) := h43
                have c0 := (he.cell HB.out.2).trans HY.out.1
                have c1 := (he.cell HB.out.2).trans HY.out.2.1
                have c2 := (he.cell HB.out.2).trans HY.out.2.2.1
                have c3 := (he.cell HB.out.2).trans HY.out.2.2.2
                simp [execOp, evR, e43, c0, c1, c2, c3, go_sem]
              refine tele_move rfl (.inl rfl) rfl (isV (.slice (some ⟨bl, ol, none⟩) ws.length cl)) (fun ρ w' h => h) ?_
              refine tele_move rfl (.inl rfl) rfl (isV (.int .i64 (i : Int))) (fun ρ w' h => h) ?_
              refine tele_val rfl (.pointer (some ⟨bl, ol + i * 4, none⟩)) (fun _ _ _ => rfl) ?_ ?_
              · rintro ρ w' he ⟨h45, h46, -⟩
                have e45 : ρ 45 = (.slice (some ⟨bl, ol, none⟩) ws.length cl) := h45
                have e46 : ρ 46 = (.int .i64 (i : Int)) := h46
                exact index_at (w := w') 4 rfl Try.underlying27 e45 e46 hiw (by kernel_rfl)
              refine tele_val rfl (.agg #[strV kx, .int .i64 gx, .bool dx, strV zx]) (fun _ _ _ => rfl) ?_ ?_
              · rintro ρ w' he ⟨h47, -⟩
                have e47 : ρ 47 = (.pointer (some ⟨bl, ol + i * 4, none⟩)) := h47
                have c0 := (he.cell HB.out.1).trans HX.out.1
                have c1 := (he.cell HB.out.1).trans HX.out.2.1
                have c2 := (he.cell HB.out.1).trans HX.out.2.2.1
                have c3 := (he.cell HB.out.1).trans HX.out.2.2.2
                simp [execOp, evR, e47, c0, c1, c2, c3, go_sem]
              refine tele_call rfl rfl Try.func42 (by kernel_rfl) (isV (.bool false)) (fun _ _ _ => rfl) ?_ ?_
              · rintro ρ w' he ⟨h44, h48, -⟩
                have e44 : ρ 44 = (.agg #[strV ky, .int .i64 gy, .bool dy, strV zy]) := h44
                have e48 : ρ 48 = (.agg #[strV kx, .int .i64 gx, .bool dx, strV zx]) := h48
                simp only [evR, List.map_toArray, List.map_cons, List.map_nil, e44, e48]
                refine (H1.out _).mono ?_
                rintro e w'' ⟨rfl, hx⟩
                exact ⟨_, rfl, hx, rfl⟩
              refine tele_move rfl (.inl rfl) rfl (isV (.bool false)) (fun ρ w' h => h) ?_
              refine tele_val rfl ((.slice (some ⟨bl, ol, none⟩) ws.length cl)) (fun ρ w' hk => by obtain ⟨_, hg, -⟩ := hk; have eg : ρ 50 = (.bool false) := hg; simp [wantedR, Region.wanted, asBoolR, eg]) ?_ ?_
              · rintro ρ w' he ⟨h0, -⟩
                have e0 : ρ 0 = (.slice (some ⟨bl, ol, none⟩) ws.length cl) := h0
                simp [execOp, evR, e0]
              refine tele_val rfl ((.int .i64 (i : Int))) (fun ρ w' hk => by obtain ⟨_, hg, -⟩ := hk; have eg : ρ 50 = (.bool false) := hg; simp [wantedR, Region.wanted, asBoolR, eg]) ?_ ?_
              · rintro ρ w' he ⟨h4, -⟩
                have e4 : ρ 4 = (.int .i64 (i : Int)) := h4
                simp [execOp, evR, e4]
              refine tele_val rfl (.pointer (some ⟨bl, ol + i * 4, none⟩)) (fun ρ w' hk => by obtain ⟨_, _, hg, -⟩ := hk; have eg : ρ 50 = (.bool false) := hg; simp [wantedR, Region.wanted, asBoolR, eg]) ?_ ?_
              · rintro ρ w' he ⟨h51, h52, -⟩
                have e51 : ρ 51 = (.slice (some ⟨bl, ol, none⟩) ws.length cl) := h51
                have e52 : ρ 52 = (.int .i64 (i : Int)) := h52
                exact index_at (w := w') 4 rfl Try.underlying27 e51 e52 hiw (by kernel_rfl)
              refine tele_val rfl (.agg #[strV kx, .int .i64 gx, .bool dx, strV zx]) (fun ρ w' hk => by obtain ⟨_, hg, -⟩ := hk; have eg : ρ 50 = (.bool false) := hg; simp [wantedR, Region.wanted, asBoolR, eg]) ?_ ?_
              · rintro ρ w' he ⟨h53, -⟩
                have e53 : ρ 53 = (.pointer (some ⟨bl, ol + i * 4, none⟩)) := h53
                have c0 := (he.cell HB.out.1).trans HX.out.1
                have c1 := (he.cell HB.out.1).trans HX.out.2.1
                have c2 := (he.cell HB.out.1).trans HX.out.2.2.1
                have c3 := (he.cell HB.out.1).trans HX.out.2.2.2
                simp [execOp, evR, e53, c0, c1, c2, c3, go_sem]
              refine tele_val rfl ((.slice (some ⟨bo, oo, none⟩) os.length co)) (fun ρ w' hk => by obtain ⟨_, hg, -⟩ := hk; have eg : ρ 50 = (.bool false) := hg; simp [wantedR, Region.wanted, asBoolR, eg]) ?_ ?_
              · rintro ρ w' he ⟨h3, -⟩
                have e3 : ρ 3 = (.slice (some ⟨bo, oo, none⟩) os.length co) := h3
                simp [execOp, evR, e3]
              refine tele_val rfl ((.int .i64 (k : Int))) (fun ρ w' hk => by obtain ⟨_, hg, -⟩ := hk; have eg : ρ 50 = (.bool false) := hg; simp [wantedR, Region.wanted, asBoolR, eg]) ?_ ?_
              · rintro ρ w' he ⟨h7, -⟩
                have e7 : ρ 7 = (.int .i64 (k : Int)) := h7
                simp [execOp, evR, e7]
              refine tele_val rfl (.pointer (some ⟨bo, oo + k * 4, none⟩)) (fun ρ w' hk => by obtain ⟨_, _, hg, -⟩ := hk; have eg : ρ 50 = (.bool false) := hg; simp [wantedR, Region.wanted, asBoolR, eg]) ?_ ?_
              · rintro ρ w' he ⟨h55, h56, -⟩
                have e55 : ρ 55 = (.slice (some ⟨bo, oo, none⟩) os.length co) := h55
                have e56 : ρ 56 = (.int .i64 (k : Int)) := h56
                exact index_at (w := w') 4 rfl Try.underlying27 e55 e56 hko (by kernel_rfl)
              refine tele_val rfl (.agg #[strV ky, .int .i64 gy, .bool dy, strV zy]) (fun ρ w' hk => by obtain ⟨_, hg, -⟩ := hk; have eg : ρ 50 = (.bool false) := hg; simp [wantedR, Region.wanted, asBoolR, eg]) ?_ ?_
              · rintro ρ w' he ⟨h57, -⟩
                have e57 : ρ 57 = (.pointer (some ⟨bo, oo + k * 4, none⟩)) := h57
                have c0 := (he.cell HB.out.2).trans HY.out.1
                have c1 := (he.cell HB.out.2).trans HY.out.2.1
                have c2 := (he.cell HB.out.2).trans HY.out.2.2.1
                have c3 := (he.cell HB.out.2).trans HY.out.2.2.2
                simp [execOp, evR, e57, c0, c1, c2, c3, go_sem]
              refine tele_call rfl rfl Try.func42 (by kernel_rfl) (isV (.bool a2)) (fun ρ w' hk => by obtain ⟨_, _, hg, -⟩ := hk; have eg : ρ 50 = (.bool false) := hg; simp [wantedR, Region.wanted, asBoolR, eg]) ?_ ?_
              · rintro ρ w' he ⟨h54, h58, -⟩
                have e54 : ρ 54 = (.agg #[strV kx, .int .i64 gx, .bool dx, strV zx]) := h54
                have e58 : ρ 58 = (.agg #[strV ky, .int .i64 gy, .bool dy, strV zy]) := h58
                simp only [evR, List.map_toArray, List.map_cons, List.map_nil, e54, e58]
                refine (H2.out _).mono ?_
                rintro e w'' ⟨rfl, hx⟩
                exact ⟨_, rfl, hx, rfl⟩
              refine tele_val rfl (.bool a2) (fun _ _ _ => rfl) ?_ ?_
              · rintro ρ w' he ⟨h50, h59, -⟩
                have e50 : ρ 50 = (.bool false) := h50
                have e59 : ρ 59 = (.bool a2) := h59
                simp [execOp, evR, e50, e59, go_sem]
              refine tele_nil ?_
              rintro ρ w' hext ⟨f60, f59, f58, f57, f56, f55, f54, f53, f52, f51, f50, f49, f48, f47, f46, f45, f44, f43, f42, f41, -⟩
              replace f41 : ρ 41 = (.slice (some ⟨bo, oo, none⟩) os.length co) := f41
              replace f42 : ρ 42 = (.int .i64 (k : Int)) := f42
              replace f43 : ρ 43 = (.pointer (some ⟨bo, oo + k * 4, none⟩)) := f43
              replace f44 : ρ 44 = (.agg #[strV ky, .int .i64 gy, .bool dy, strV zy]) := f44
              replace f45 : ρ 45 = (.slice (some ⟨bl, ol, none⟩) ws.length cl) := f45
              replace f46 : ρ 46 = (.int .i64 (i : Int)) := f46
              replace f47 : ρ 47 = (.pointer (some ⟨bl, ol + i * 4, none⟩)) := f47
              replace f48 : ρ 48 = (.agg #[strV kx, .int .i64 gx, .bool dx, strV zx]) := f48
              replace f49 : ρ 49 = (.bool false) := f49
              replace f50 : ρ 50 = (.bool false) := f50
              replace f51 : ρ 51 = (.slice (some ⟨bl, ol, none⟩) ws.length cl) := f51
              replace f52 : ρ 52 = (.int .i64 (i : Int)) := f52
              replace f53 : ρ 53 = (.pointer (some ⟨bl, ol + i * 4, none⟩)) := f53
              replace f54 : ρ 54 = (.agg #[strV kx, .int .i64 gx, .bool dx, strV zx]) := f54
              replace f55 : ρ 55 = (.slice (some ⟨bo, oo, none⟩) os.length co) := f55
              replace f56 : ρ 56 = (.int .i64 (k : Int)) := f56
              replace f57 : ρ 57 = (.pointer (some ⟨bo, oo + k * 4, none⟩)) := f57
              replace f58 : ρ 58 = (.agg #[strV ky, .int .i64 gy, .bool dy, strV zy]) := f58
              replace f59 : ρ 59 = (.bool a2) := f59
              replace f60 : ρ 60 = (.bool a2) := f60
              simp only [puts, Act.put, List.setIfInBounds_toArray, List.set_cons_zero, List.set_cons_succ]
              rw [f60]
              clear f41
              clear f42
              clear f43
              clear f44
              clear f45
              clear f46
              clear f47
              clear f48
              clear f49
              clear f50
              clear f51
              clear f52
              clear f53
              clear f54
              clear f55
              clear f56
              clear f57
              clear f58
              clear f59
              clear f60
              have HJ1 := Lib.hid (HJ.out.more hext)
              have HX1 := Lib.hid (show _ ∧ _ ∧ _ ∧ _ from ⟨(hext.cell HB.out.1).trans HX.out.1, (hext.cell HB.out.1).trans HX.out.2.1, (hext.cell HB.out.1).trans HX.out.2.2.1, (hext.cell HB.out.1).trans HX.out.2.2.2⟩)
              have HY1 := Lib.hid (show _ ∧ _ ∧ _ ∧ _ from ⟨(hext.cell HB.out.2).trans HY.out.1, (hext.cell HB.out.2).trans HY.out.2.1, (hext.cell HB.out.2).trans HY.out.2.2.1, (hext.cell HB.out.2).trans HY.out.2.2.2⟩)
              have HB1 : Hid (bl < w'.heap.size ∧ bo < w'.heap.size) := Lib.hid ⟨Nat.lt_of_lt_of_le HB.out.1 hext.size, Nat.lt_of_lt_of_le HB.out.2 hext.size⟩
              clear HJ HX HY HB hext
              have HJ := HJ1
              have HX := HX1
              have HY := HY1
              have HB := HB1
              clear HJ1 HX1 HY1 HB1
              generalize w' = W at *
              cases a2
              ·have HEQ3 := Lib.hid (eq_skip HA1.out HA2.out HEQ.out)
               clear HEQ
               have HEQ := HEQ3
               clear HEQ3
               go_wp2_with fail
               go_roundw
               case rel => exact ⟨k + 1, true, _, _, by omega, rfl, by go_num, rfl, HJ, HEQ⟩
               case measure => simp [intOf]; omega
              ·have p0 := HY.out.1
               have p1 := HY.out.2.1
               have p2 := HY.out.2.2.1
               have p3 := HY.out.2.2.2
               have nl := HJ.out.ns_le HEQ.out
               unfold strV at p0 p3
               have blk := Blk.new W #[.string ⟨ky.toArray⟩, .int .i64 gy, .bool dy, .string ⟨zy.toArray⟩] 31
               have hF : Fl (W.alloc (.cells #[.string ⟨ky.toArray⟩, .int .i64 gy, .bool dy, .string ⟨zy.toArray⟩] 31)) (.slice (some ⟨W.heap.size, 0, none⟩) 1 1) 1 [.string ⟨ky.toArray⟩, .int .i64 gy, .bool dy, .string ⟨zy.toArray⟩] := ⟨_, 1, rfl, Nat.le_refl _, by decide, by simp, fun _ => ⟨_, 0, rfl, blk.lt, fun j u hu => by rw [Nat.zero_add]; exact blk.cell (i := j) hu⟩⟩
               have HF := Lib.hid hF
               have HOw := Lib.hid (HJ.out.more (ext_alloc W (.cells #[.string ⟨ky.toArray⟩, .int .i64 gy, .bool dy, .string ⟨zy.toArray⟩] 31))).row
               have HSz := Lib.hid (HJ.out.more (ext_alloc W (.cells #[.string ⟨ky.toArray⟩, .int .i64 gy, .bool dy, .string ⟨zy.toArray⟩] 31))).ext.size
               have h1c : ∀ u ∈ ([.string ⟨ky.toArray⟩, .int .i64 gy, .bool dy, .string ⟨zy.toArray⟩] : List Value), u.oneCell' = true := by intro u hu; simp only [List.mem_cons, List.not_mem_nil, or_false] at hu; rcases hu with rfl | rfl | rfl | rfl <;> rfl
               clear blk hF
               go_upto_region 9 with (at_builtin; refine wpList_append_fl rfl (.tmp 61) (.tmp 66) 27 rfl Wi.heap.size 31 i0 _ 4 48 Try.underlying27 HI0.out HZ0.out HZ1.out HZ2.out rfl (by decide) HOw.out HF.out rfl rfl rfl h1c (by unfold maxLen; omega) (by omega) HSz.out ?_; intro v' w3 hown' hg hat; clear hat p0 p1 p2 p3; have HOw3 := Lib.hid hown'; have HG3 := Lib.hid hg; clear hown' hg)
               clear nl
               have HJ3 := Lib.hid (HJ.out.add (x := ⟨ky, gy, dy, zy⟩) (ext_alloc W (.cells #[.string ⟨ky.toArray⟩, .int .i64 gy, .bool dy, .string ⟨zy.toArray⟩] 31)) HOw3.out HG3.out)
               have HB3 : Hid (bl < w3.heap.size ∧ bo < w3.heap.size) := Lib.hid ⟨Nat.lt_of_lt_of_le HLB.out.1 HJ3.out.ext.size, Nat.lt_of_lt_of_le HLB.out.2 HJ3.out.ext.size⟩
               have HX3 := Lib.hid (HXI.out w3 HJ3.out.ext)
               have HY3 := Lib.hid (HYI.out w3 HJ3.out.ext)
               clear HJ HX HY HB HOw3 HG3 HOw HSz HF h1c
               have HJ := HJ3
               have HX := HX3
               have HY := HY3
               have HB := HB3
               clear HJ3 HX3 HY3 HB3
               have HEQ3 := Lib.hid (eq_y (.inr HA2.out) HEQ.out)
               clear HEQ
               have HEQ := HEQ3
               clear HEQ3
               generalize w3 = W at *
               generalize ns ++ [(⟨ky, gy, dy, zy⟩ : Wr)] = ns at *
               go_wp2_with fail
               go_roundw
               case rel => exact ⟨k + 1, true, _, _, by omega, rfl, by go_num, rfl, HJ, HEQ⟩
               case measure => simp [intOf]; omega
            · go_upto_region 10 with (fail)
              refine wp_region_mono (by kernel_rfl) (by kernel_rfl) ?_
              refine tele_move rfl (.inl rfl) rfl (isV (.bool true)) (fun ρ w' h => h) ?_
              refine tele_val rfl (.bool false) (fun _ _ _ => rfl) ?_ ?_
              · rintro ρ w' he ⟨h20, -⟩
                have e20 : ρ 20 = (.bool true) := h20
                simp [execOp, evR, e20, go_sem]
              refine tele_move rfl (.inl rfl) rfl (isV (.bool false)) (fun ρ w' h => h) ?_
              refine tele_pass rfl (fun ρ w' hk => by obtain ⟨_, hg, -⟩ := hk; have eg : ρ 22 = (.bool false) := hg; simp [wantedR, Region.wanted, asBoolR, eg]) ?_
              refine tele_pass rfl (fun ρ w' hk => by obtain ⟨_, hg, -⟩ := hk; have eg : ρ 22 = (.bool false) := hg; simp [wantedR, Region.wanted, asBoolR, eg]) ?_
              refine tele_pass rfl (fun ρ w' hk => by obtain ⟨_, _, hg, -⟩ := hk; have eg : ρ 22 = (.bool false) := hg; simp [wantedR, Region.wanted, asBoolR, eg]) ?_
              refine tele_pass rfl (fun ρ w' hk => by obtain ⟨_, hg, -⟩ := hk; have eg : ρ 22 = (.bool false) := hg; simp [wantedR, Region.wanted, asBoolR, eg]) ?_
              refine tele_pass rfl (fun ρ w' hk => by obtain ⟨_, hg, -⟩ := hk; have eg : ρ 22 = (.bool false) := hg; simp [wantedR, Region.wanted, asBoolR, eg]) ?_
              refine tele_pass rfl (fun ρ w' hk => by obtain ⟨_, hg, -⟩ := hk; have eg : ρ 22 = (.bool false) := hg; simp [wantedR, Region.wanted, asBoolR, eg]) ?_
              refine tele_pass rfl (fun ρ w' hk => by obtain ⟨_, _, hg, -⟩ := hk; have eg : ρ 22 = (.bool false) := hg; simp [wantedR, Region.wanted, asBoolR, eg]) ?_
              refine tele_pass rfl (fun ρ w' hk => by obtain ⟨_, hg, -⟩ := hk; have eg : ρ 22 = (.bool false) := hg; simp [wantedR, Region.wanted, asBoolR, eg]) ?_
              refine tele_pass rfl (fun ρ w' hk => by obtain ⟨_, _, hg, -⟩ := hk; have eg : ρ 22 = (.bool false) := hg; simp [wantedR, Region.wanted, asBoolR, eg]) ?_
              refine tele_pass rfl (fun ρ w' hk => by obtain ⟨_, hg, -⟩ := hk; have eg : ρ 22 = (.bool false) := hg; simp [wantedR, Region.wanted, asBoolR, eg]) ?_
              refine tele_val rfl (.bool false) (fun _ _ _ => rfl) ?_ ?_
              · rintro ρ w' he ⟨h22, h32, -⟩
                have e22 : ρ 22 = (.bool false) := h22
                have e32 : ρ 32 = undef := h32
                simp [execOp, evR, e22, e32, go_sem]
              refine tele_nil ?_
              rintro ρ w' hext ⟨f33, f32, f31, f30, f29, f28, f27, f26, f25, f24, f23, f22, f21, f20, -⟩
              replace f20 : ρ 20 = (.bool true) := f20
              replace f21 : ρ 21 = (.bool false) := f21
              replace f22 : ρ 22 = (.bool false) := f22
              replace f23 : ρ 23 = undef := f23
              replace f24 : ρ 24 = undef := f24
              replace f25 : ρ 25 = undef := f25
              replace f26 : ρ 26 = undef := f26
              replace f27 : ρ 27 = undef := f27
              replace f28 : ρ 28 = undef := f28
              replace f29 : ρ 29 = undef := f29
              replace f30 : ρ 30 = undef := f30
              replace f31 : ρ 31 = undef := f31
              replace f32 : ρ 32 = undef := f32
              replace f33 : ρ 33 = (.bool false) := f33
              simp only [puts, Act.put, List.setIfInBounds_toArray, List.set_cons_zero, List.set_cons_succ]
              rw [f33]
              clear f20
              clear f21
              clear f22
              clear f23
              clear f24
              clear f25
              clear f26
              clear f27
              clear f28
              clear f29
              clear f30
              clear f31
              clear f32
              clear f33
              have HJ1 := Lib.hid (HJ.out.more hext)
              have HX1 := Lib.hid (show _ ∧ _ ∧ _ ∧ _ from ⟨(hext.cell HB.out.1).trans HX.out.1, (hext.cell HB.out.1).trans HX.out.2.1, (hext.cell HB.out.1).trans HX.out.2.2.1, (hext.cell HB.out.1).trans HX.out.2.2.2⟩)
              have HY1 := Lib.hid (show _ ∧ _ ∧ _ ∧ _ from ⟨(hext.cell HB.out.2).trans HY.out.1, (hext.cell HB.out.2).trans HY.out.2.1, (hext.cell HB.out.2).trans HY.out.2.2.1, (hext.cell HB.out.2).trans HY.out.2.2.2⟩)
              have HB1 : Hid (bl < w'.heap.size ∧ bo < w'.heap.size) := Lib.hid ⟨Nat.lt_of_lt_of_le HB.out.1 hext.size, Nat.lt_of_lt_of_le HB.out.2 hext.size⟩
              clear HJ HX HY HB hext
              have HJ := HJ1
              have HX := HX1
              have HY := HY1
              have HB := HB1
              clear HJ1 HX1 HY1 HB1
              generalize w' = W at *
              have HEQ3 := Lib.hid (eq_0 (.inl rfl) HEQ.out)
              clear HEQ
              have HEQ := HEQ3
              clear HEQ3
              go_upto_region 13 with (fail)
              refine wp_region_mono (by kernel_rfl) (by kernel_rfl) ?_
              refine tele_move rfl (.inl rfl) rfl (isV (.slice (some ⟨bo, oo, none⟩) os.length co)) (fun ρ w' h => h) ?_
              refine tele_move rfl (.inl rfl) rfl (isV (.int .i64 (k : Int))) (fun ρ w' h => h) ?_
              refine tele_val rfl (.pointer (some ⟨bo, oo + k * 4, none⟩)) (fun _ _ _ => rfl) ?_ ?_
              · rintro ρ w' he ⟨h41, h42, -⟩
                have e41 : ρ 41 = (.slice (some ⟨bo, oo, none⟩) os.length co) := h41
                have e42 : ρ 42 = (.int .i64 (k : Int)) := h42
                exact index_at (w := w') 4 rfl Try.underlying27 e41 e42 hko (by kernel_rfl)
              refine tele_val rfl (.agg #[strV ky, .int .i64 gy, .bool dy, strV zy]) (fun _ _ _ => rfl) ?_ ?_
              · rintro ρ w' he ⟨h43, -⟩
                have e43 : ρ 43 = (.pointer (some ⟨bo, oo + k * 4, none⟩)) := h43
                have c0 := (he.cell HB.out.2).trans HY.out.1
                have c1 := (he.cell HB.out.2).trans HY.out.2.1
                have c2 := (he.cell HB.out.2).trans HY.out.2.2.1
                have c3 := (he.cell HB.out.2).trans HY.out.2.2.2
                simp [execOp, evR, e43, c0, c1, c2, c3, go_sem]
              refine tele_move rfl (.inl rfl) rfl (isV (.slice (some ⟨bl, ol, none⟩) ws.length cl)) (fun ρ w' h => h) ?_
              refine tele_move rfl (.inl rfl) rfl (isV (.int .i64 (i : Int))) (fun ρ w' h => h) ?_
              refine tele_val rfl (.pointer (some ⟨bl, ol + i * 4, none⟩)) (fun _ _ _ => rfl) ?_ ?_
              · rintro ρ w' he ⟨h45, h46, -⟩
                have e45 : ρ 45 = (.slice (some ⟨bl, ol, none⟩) ws.length cl) := h45
                have e46 : ρ 46 = (.int .i64 (i : Int)) := h46
                exact index_at (w := w') 4 rfl Try.underlying27 e45 e46 hiw (by kernel_rfl)
              refine tele_val rfl (.agg #[strV kx, .int .i64 gx, .bool dx, strV zx]) (fun _ _ _ => rfl) ?_ ?_
              · rintro ρ w' he ⟨h47, -⟩
                have e47 : ρ 47 = (.pointer (some ⟨bl, ol + i * 4, none⟩)) := h47
                have c0 := (he.cell HB.out.1).trans HX.out.1
                have c1 := (he.cell HB.out.1).trans HX.out.2.1
                have c2 := (he.cell HB.out.1).trans HX.out.2.2.1
                have c3 := (he.cell HB.out.1).trans HX.out.2.2.2
                simp [execOp, evR, e47, c0, c1, c2, c3, go_sem]
              refine tele_call rfl rfl Try.func42 (by kernel_rfl) (isV (.bool true)) (fun _ _ _ => rfl) ?_ ?_
              · rintro ρ w' he ⟨h44, h48, -⟩
                have e44 : ρ 44 = (.agg #[strV ky, .int .i64 gy, .bool dy, strV zy]) := h44
                have e48 : ρ 48 = (.agg #[strV kx, .int .i64 gx, .bool dx, strV zx]) := h48
                simp only [evR, List.map_toArray, List.map_cons, List.map_nil, e44, e48]
                refine (H1.out _).mono ?_
                rintro e w'' ⟨rfl, hx⟩
                exact ⟨_, rfl, hx, rfl⟩
              refine tele_move rfl (.inl rfl) rfl (isV (.bool true)) (fun ρ w' h => h) ?_
              refine tele_pass rfl (fun ρ w' hk => by obtain ⟨_, hg, -⟩ := hk; have eg : ρ 50 = (.bool true) := hg; simp [wantedR, Region.wanted, asBoolR, eg]) ?_
              refine tele_pass rfl (fun ρ w' hk => by obtain ⟨_, hg, -⟩ := hk; have eg : ρ 50 = (.bool true) := hg; simp [wantedR, Region.wanted, asBoolR, eg]) ?_
              refine tele_pass rfl (fun ρ w' hk => by obtain ⟨_, _, hg, -⟩ := hk; have eg : ρ 50 = (.bool true) := hg; simp [wantedR, Region.wanted, asBoolR, eg]) ?_
              refine tele_pass rfl (fun ρ w' hk => by obtain ⟨_, hg, -⟩ := hk; have eg : ρ 50 = (.bool true) := hg; simp [wantedR, Region.wanted, asBoolR, eg]) ?_
              refine tele_pass rfl (fun ρ w' hk => by obtain ⟨_, hg, -⟩ := hk; have eg : ρ 50 = (.bool true) := hg; simp [wantedR, Region.wanted, asBoolR, eg]) ?_
              refine tele_pass rfl (fun ρ w' hk => by obtain ⟨_, hg, -⟩ := hk; have eg : ρ 50 = (.bool true) := hg; simp [wantedR, Region.wanted, asBoolR, eg]) ?_
              refine tele_pass rfl (fun ρ w' hk => by obtain ⟨_, _, hg, -⟩ := hk; have eg : ρ 50 = (.bool true) := hg; simp [wantedR, Region.wanted, asBoolR, eg]) ?_
              refine tele_pass rfl (fun ρ w' hk => by obtain ⟨_, hg, -⟩ := hk; have eg : ρ 50 = (.bool true) := hg; simp [wantedR, Region.wanted, asBoolR, eg]) ?_
              refine tele_pass rfl (fun ρ w' hk => by obtain ⟨_, _, hg, -⟩ := hk; have eg : ρ 50 = (.bool true) := hg; simp [wantedR, Region.wanted, asBoolR, eg]) ?_
              refine tele_val rfl (.bool true) (fun _ _ _ => rfl) ?_ ?_
              · rintro ρ w' he ⟨h50, h59, -⟩
                have e50 : ρ 50 = (.bool true) := h50
                have e59 : ρ 59 = undef := h59
                simp [execOp, evR, e50, e59, go_sem]
              refine tele_nil ?_
              rintro ρ w' hext ⟨f60, f59, f58, f57, f56, f55, f54, f53, f52, f51, f50, f49, f48, f47, f46, f45, f44, f43, f42, f41, -⟩
              replace f41 : ρ 41 = (.slice (some ⟨bo, oo, none⟩) os.length co) := f41
              replace f42 : ρ 42 = (.int .i64 (k : Int)) := f42
              replace f43 : ρ 43 = (.pointer (some ⟨bo, oo + k * 4, none⟩)) := f43
              replace f44 : ρ 44 = (.agg #[strV ky, .int .i64 gy, .bool dy, strV zy]) := f44
              replace f45 : ρ 45 = (.slice (some ⟨bl, ol, none⟩) ws.length cl) := f45
              replace f46 : ρ 46 = (.int .i64 (i : Int)) := f46
              replace f47 : ρ 47 = (.pointer (some ⟨bl, ol + i * 4, none⟩)) := f47
              replace f48 : ρ 48 = (.agg #[strV kx, .int .i64 gx, .bool dx, strV zx]) := f48
              replace f49 : ρ 49 = (.bool true) := f49
              replace f50 : ρ 50 = (.bool true) := f50
              replace f51 : ρ 51 = undef := f51
              replace f52 : ρ 52 = undef := f52
              replace f53 : ρ 53 = undef := f53
              replace f54 : ρ 54 = undef := f54
              replace f55 : ρ 55 = undef := f55
              replace f56 : ρ 56 = undef := f56
              replace f57 : ρ 57 = undef := f57
              replace f58 : ρ 58 = undef := f58
              replace f59 : ρ 59 = undef := f59
              replace f60 : ρ 60 = (.bool true) := f60
              simp only [puts, Act.put, List.setIfInBounds_toArray, List.set_cons_zero, List.set_cons_succ]
              rw [f60]
              clear f41
              clear f42
              clear f43
              clear f44
              clear f45
              clear f46
              clear f47
              clear f48
              clear f49
              clear f50
              clear f51
              clear f52
              clear f53
              clear f54
              clear f55
              clear f56
              clear f57
              clear f58
              clear f59
              clear f60
              have HJ1 := Lib.hid (HJ.out.more hext)
              have HX1 := Lib.hid (show _ ∧ _ ∧ _ ∧ _ from ⟨(hext.cell HB.out.1).trans HX.out.1, (hext.cell HB.out.1).trans HX.out.2.1, (hext.cell HB.out.1).trans HX.out.2.2.1, (hext.cell HB.out.1).trans HX.out.2.2.2⟩)
              have HY1 := Lib.hid (show _ ∧ _ ∧ _ ∧ _ from ⟨(hext.cell HB.out.2).trans HY.out.1, (hext.cell HB.out.2).trans HY.out.2.1, (hext.cell HB.out.2).trans HY.out.2.2.1, (hext.cell HB.out.2).trans HY.out.2.2.2⟩)
              have HB1 : Hid (bl < w'.heap.size ∧ bo < w'.heap.size) := Lib.hid ⟨Nat.lt_of_lt_of_le HB.out.1 hext.size, Nat.lt_of_lt_of_le HB.out.2 hext.size⟩
              clear HJ HX HY HB hext
              have HJ := HJ1
              have HX := HX1
              have HY := HY1
              have HB := HB1
              clear HJ1 HX1 HY1 HB1
              generalize w' = W at *
              have p0 := HY.out.1
              have p1 := HY.out.2.1
              have p2 := HY.out.2.2.1
              have p3 := HY.out.2.2.2
              have nl := HJ.out.ns_le HEQ.out
              unfold strV at p0 p3
              have blk := Blk.new W #[.string ⟨ky.toArray⟩, .int .i64 gy, .bool dy, .string ⟨zy.toArray⟩] 31
              have hF : Fl (W.alloc (.cells #[.string ⟨ky.toArray⟩, .int .i64 gy, .bool dy, .string ⟨zy.toArray⟩] 31)) (.slice (some ⟨W.heap.size, 0, none⟩) 1 1) 1 [.string ⟨ky.toArray⟩, .int .i64 gy, .bool dy, .string ⟨zy.toArray⟩] := ⟨_, 1, rfl, Nat.le_refl _, by decide, by simp, fun _ => ⟨_, 0, rfl, blk.lt, fun j u hu => by rw [Nat.zero_add]; exact blk.cell (i := j) hu⟩⟩
              have HF := Lib.hid hF
              have HOw := Lib.hid (HJ.out.more (ext_alloc W (.cells #[.string ⟨ky.toArray⟩, .int .i64 gy, .bool dy, .string ⟨zy.toArray⟩] 31))).row
              have HSz := Lib.hid (HJ.out.more (ext_alloc W (.cells #[.string ⟨ky.toArray⟩, .int .i64 gy, .bool dy, .string ⟨zy.toArray⟩] 31))).ext.size
              have h1c : ∀ u ∈ ([.string ⟨ky.toArray⟩, .int .i64 gy, .bool dy, .string ⟨zy.toArray⟩] : List Value), u.oneCell' = true := by intro u hu; simp only [List.mem_cons, List.not_mem_nil, or_false] at hu; rcases hu with rfl | rfl | rfl | rfl <;> rfl
              clear blk hF
              go_upto_region 9 with (at_builtin; refine wpList_append_fl rfl (.tmp 61) (.tmp 66) 27 rfl Wi.heap.size 31 i0 _ 4 48 Try.underlying27 HI0.out HZ0.out HZ1.out HZ2.out rfl (by decide) HOw.out HF.out rfl rfl rfl h1c (by unfold maxLen; omega) (by omega) HSz.out ?_; intro v' w3 hown' hg hat; clear hat p0 p1 p2 p3; have HOw3 := Lib.hid hown'; have HG3 := Lib.hid hg; clear hown' hg)
              clear nl
              have HJ3 := Lib.hid (HJ.out.add (x := ⟨ky, gy, dy, zy⟩) (ext_alloc W (.cells #[.string ⟨ky.toArray⟩, .int .i64 gy, .bool dy, .string ⟨zy.toArray⟩] 31)) HOw3.out HG3.out)
              have HB3 : Hid (bl < w3.heap.size ∧ bo < w3.heap.size) := Lib.hid ⟨Nat.lt_of_lt_of_le HLB.out.1 HJ3.out.ext.size, Nat.lt_of_lt_of_le HLB.out.2 HJ3.out.ext.size⟩
              have HX3 := Lib.hid (HXI.out w3 HJ3.out.ext)
              have HY3 := Lib.hid (HYI.out w3 HJ3.out.ext)
              clear HJ HX HY HB HOw3 HG3 HOw HSz HF h1c
              have HJ := HJ3
              have HX := HX3
              have HY := HY3
              have HB := HB3
              clear HJ3 HX3 HY3 HB3
              have HEQ3 := Lib.hid (eq_y (.inl HA1.out) HEQ.out)
              clear HEQ
              have HEQ := HEQ3
              clear HEQ3
              generalize w3 = W at *
              generalize ns ++ [(⟨ky, gy, dy, zy⟩ : Wr)] = ns at *
              go_wp2_with fail
              go_roundw
              case rel => exact ⟨k + 1, true, _, _, by omega, rfl, by go_num, rfl, HJ, HEQ⟩
              case measure => simp [intOf]; omega
        · have hkk : k = os.length := by omega
          have heo := HEQ.out
          rw [hkk, List.drop_length] at heo
          have HEN := Lib.hid (eq_end heo)
          clear heo
          have HSN : Hid (rinsG ⟨kx, gx, dx, zx⟩ false os = rcanonF (ws.take (i + 1))) := Lib.hid (by rw [List.take_add_one, HGX.out, HOS.out]; exact (rcanonF_snoc _ _).symm)
          have HFA : Hid (∀ z ∈ rcanonF (ws.take (i + 1)), z.fits) := Lib.hid fun z hz => HFIT.out z (List.mem_of_mem_take (keepLast_sub _ z ((rcanonF_mem _ z).1 hz)))
          have nl := HJ.out.ns_le HEQ.out
          have hi1 : i + 1 ≤ ws.length := hiw
          clear hkk HEQ HG4
          cases dn
          · have HX := HXI.out W HJ.out.ext
            unfold isW4 at HX
            obtain ⟨p0, p1, p2, p3⟩ := HX
            dsimp only at p0 p1 p2 p3
            unfold strV at p0 p3
            have blk := Blk.new W #[.string ⟨kx.toArray⟩, .int .i64 gx, .bool dx, .string ⟨zx.toArray⟩] 31
            have hF : Fl (W.alloc (.cells #[.string ⟨kx.toArray⟩, .int .i64 gx, .bool dx, .string ⟨zx.toArray⟩] 31)) (.slice (some ⟨W.heap.size, 0, none⟩) 1 1) 1 [.string ⟨kx.toArray⟩, .int .i64 gx, .bool dx, .string ⟨zx.toArray⟩] := ⟨_, 1, rfl, Nat.le_refl _, by decide, by simp, fun _ => ⟨_, 0, rfl, blk.lt, fun j u hu => by rw [Nat.zero_add]; exact blk.cell (i := j) hu⟩⟩
            have HF := Lib.hid hF
            have HOw := Lib.hid (HJ.out.more (ext_alloc W (.cells #[.string ⟨kx.toArray⟩, .int .i64 gx, .bool dx, .string ⟨zx.toArray⟩] 31))).row
            have HSz := Lib.hid (HJ.out.more (ext_alloc W (.cells #[.string ⟨kx.toArray⟩, .int .i64 gx, .bool dx, .string ⟨zx.toArray⟩] 31))).ext.size
            have h1c : ∀ u ∈ ([.string ⟨kx.toArray⟩, .int .i64 gx, .bool dx, .string ⟨zx.toArray⟩] : List Value), u.oneCell' = true := by intro u hu; simp only [List.mem_cons, List.not_mem_nil, or_false] at hu; rcases hu with rfl | rfl | rfl | rfl <;> rfl
            clear blk hF
            go_upto_region 17 with (at_builtin; refine wpList_append_fl rfl (.tmp 70) (.tmp 75) 27 rfl Wi.heap.size 31 i0 _ 4 48 Try.underlying27 HI0.out HZ0.out HZ1.out HZ2.out rfl (by decide) HOw.out HF.out rfl rfl rfl h1c (by unfold maxLen; omega) (by omega) HSz.out ?_; intro v' w3 hown' hg hat; clear hat p0 p1 p2 p3; have HOw3 := Lib.hid hown'; have HG3 := Lib.hid hg; clear hown' hg)
            have HJ3 := Lib.hid (HJ.out.add (x := ⟨kx, gx, dx, zx⟩) (ext_alloc W (.cells #[.string ⟨kx.toArray⟩, .int .i64 gx, .bool dx, .string ⟨zx.toArray⟩] 31)) HOw3.out HG3.out)
            clear nl HOw3 HG3 HOw HSz HF h1c
            go_wp2_with fail
            go_roundw
            case rel =>
              refine ⟨i + 1, _, hi1, by go_num, Lib.hid rfl, Lib.hid ?_, Lib.hid (HWI.out.1.trans HJ3.out.ext)⟩
              have he : ns ++ [⟨kx, gx, dx, zx⟩] = rcanonF (ws.take (i + 1)) := by rw [← HSN.out, ← HEN.out]; simp
              rw [← he]
              exact ws_of_rowC (by have := HJ3.out.row; exact this) (by rw [he]; exact HFA.out)
            case measure => simp [intOf]; omega
          · clear nl
            go_wp2_with fail
            go_roundw
            case rel =>
              refine ⟨i + 1, _, hi1, by go_num, Lib.hid rfl, Lib.hid ?_, Lib.hid (HWI.out.1.trans HJ.out.ext)⟩
              have he : ns = rcanonF (ws.take (i + 1)) := by rw [← HSN.out, ← HEN.out]; simp
              rw [← he]
              exact ws_of_rowC HJ.out.row (by rw [he]; exact HFA.out)
            case measure => simp [intOf]; omega
    · obtain rfl : i = ws.length := by omega
      have HO2 : Hid (os = rcanonF ws) := Lib.hid (by have := HOS.out; rwa [List.take_length] at this)
      clear HOS g4
      go_wp2_with fail
      go_ret
      exact ⟨_, rfl, by rw [← HO2.out]; exact HWS.out, HXW.out⟩
end Go.Proofs.Ytocdifjdeifclaa
