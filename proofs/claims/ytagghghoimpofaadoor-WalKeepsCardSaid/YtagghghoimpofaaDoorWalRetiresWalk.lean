/-
  Layer 16: the walk of WalRetires.
-/
import Derived.Test.YtagghghoimpofaaDoorWalTornWalk
import Derived.Test.YtagghghoimpofaaDoorWalRetP
namespace Go.Proofs.YtagghghoimpofaaDoor
open Go Go.RowKit Mono
set_option linter.unusedVariables false
set_option linter.unusedSimpArgs false
set_option maxRecDepth 100000
set_option maxHeartbeats 4000000

theorem index_row {w : World} {o : Oper} {f : Operand → Value} {t e : TypeId} {x y : Operand} {b off c n i : Nat} (hop : o.op = .indexAddr t x y) (ht : Tryd.prog.underlying t = some (.slice e))
    (hx : f x = .slice (some ⟨b, off, none⟩) n c) (hy : f y = .int .i64 (i : Int)) (hi : i < n) (hk : (sizeOf e).run Tryd.prog w = .ok 1 w) :
    (execOp f o).run Tryd.prog w = .ok (.value (.pointer (some ⟨b, off + i, none⟩))) w := by
  have hi' : (i : Int) < (n : Int) := by omega
  have h0 : (0 : Int) ≤ (i : Int) := by omega
  simp [execOp, hop, hx, hy, Instr.indexAt, run_underlying ht, hi', h0, hk, add_at, go_sem]
  intro h
  omega
/-- A sum that is asked about up to 10000 alone. -/
def isUpW (lo : Int) : MRel := ⟨fun v _ => ∃ z : Int, v = .int .i64 z ∧ 0 ≤ z ∧ z ≤ 10001 ∧ (z ≤ 10000 → lo ≤ z), fun _ _ _ h _ => h⟩
theorem add_upW (a b lo : Int) (w : World) (ha : 0 ≤ a) (ha2 : a ≤ 10001) (hb : 0 ≤ b) (hb2 : b ≤ 9223372036854775807) (hlo : a ≤ 10000 → lo ≤ a) : Calls Tryd.prog 26 #[.int .i64 a, .int .i64 b, .int .i64 10000] w fun e w' => (∃ z : Int, e = .returned (.int .i64 z) ∧ 0 ≤ z ∧ z ≤ 10001 ∧ (z ≤ 10000 → lo + b ≤ z)) ∧ w = w' := by
  go_enter Tryd.func26, Tryd.ntmps26
  by_cases h1 : 10000 < a
  · go_wp2_with fail
    go_ret
    exact ⟨⟨_, rfl, by omega, by omega, by omega⟩, rfl⟩
  by_cases h2 : 10000 < b
  · go_wp2_with fail
    go_ret
    exact ⟨⟨_, rfl, by omega, by omega, by omega⟩, rfl⟩
  by_cases h3 : 10000 - b < a
  · go_wp2_with fail
    go_ret
    exact ⟨⟨_, rfl, by omega, by omega, by omega⟩, rfl⟩
  · go_wp2_with fail
    go_ret
    exact ⟨⟨_, rfl, by omega, by omega, by omega⟩, rfl⟩
theorem wRetireF_ok : ∀ (k : Nat) {d : Dk} (h : d.Ok) (l : Lg) (lsn : Int), (wRetireF k d l lsn).1.1.Ok
  | 0, d, h, l, lsn => h
  | k + 1, d, h, l, lsn => by
    rw [wRetireF]
    split
    · split
      · split
        · exact dDrop_ok h _
        · exact wRetireF_ok k (dDrop_ok h _) _ _
      · exact h
    · exact h
theorem wRetireF_small : ∀ (k : Nat) {c : Nat} {d : Dk} (h : d.SmallC c) (l : Lg) (lsn : Int), (wRetireF k d l lsn).1.1.SmallC (c + k)
  | 0, c, d, h, l, lsn => h
  | k + 1, c, d, h, l, lsn => by
    rw [wRetireF]
    split
    · split
      · split
        · exact (h.grow (dDrop_grow _ _)).more (by omega)
        · exact (wRetireF_small k (h.grow (dDrop_grow _ _)) _ _).more (by omega)
      · exact h.more (by omega)
    · exact h.more (by omega)
theorem wRetire_ok {d : Dk} (h : d.Ok) (l : Lg) (lsn : Int) : (wRetire d l lsn).1.1.Ok := by
  unfold wRetire
  split
  · exact h
  · exact wRetireF_ok _ h _ _
theorem wRetire_small {c : Nat} {d : Dk} (h : d.SmallC c) (l : Lg) (lsn : Int) : (wRetire d l lsn).1.1.SmallC (c + l.segs.length) := by
  unfold wRetire
  split
  · exact h.more (by omega)
  · exact wRetireF_small _ h _ _
theorem wsum_take {ls : List (List UInt8)} {k : Nat} {x : List UInt8} (h : ls[k]? = some x) : wsum (ls.take (k + 1)) = wsum (ls.take k) + (20 + x.length) := by
  rw [List.take_add_one, h, wsum_append]
  rfl
theorem wsum_len (ls : List (List UInt8)) : 20 * ls.length ≤ wsum ls := by
  induction ls with
  | nil => exact Nat.le_refl _
  | cons x r ih => unfold wsum; rw [List.length_cons]; omega
theorem wsum_take_le (ls : List (List UInt8)) (k : Nat) : wsum (ls.take k) ≤ wsum ls := by
  have := wsum_append (ls.take k) (ls.drop k)
  rw [List.take_append_drop] at this
  omega
theorem Bss.from_ {w : World} {A : Option Addr} {n c k : Nat} {ls : List (List UInt8)} (h : Bss w (.slice A n c) ls) (hk : k ≤ n) : Bss w (.slice (if c = k then A else A.map (·.add k)) (n - k) (c - k)) (ls.drop k) := by
  obtain ⟨vs, h1, h2⟩ := h
  refine ⟨vs.drop k, Sl.from_ h1 hk, ?_⟩
  have : ∀ (k : Nat) (a : List Value) (b : List (List UInt8)), All2 (Bs w) a b → All2 (Bs w) (a.drop k) (b.drop k) := by
    intro k
    induction k with
    | zero => intro a b h; exact h
    | succ k ih =>
      intro a b h
      cases a <;> cases b <;> first | exact trivial | exact h.elim | exact ih _ _ h.2
  exact this k _ _ h2
set_option maxHeartbeats 8000000 in
theorem walRetires_walk (y : Int) (v : Value) (ls : List (List UInt8)) (lsn : Int) (W : World) (hT : TbW W) (hv : Bss W v ls) :
    Calls Tryd.prog 5 #[.int .i64 y, v, .int .i64 lsn] W fun e w' => e = .returned (.bool true) ∧ Ext W w' := by
  obtain ⟨A, c, rfl, h1, h2, h3, h4⟩ := hv.open_
  unfold maxLen at h2
  have hlm : ls.length ≤ 9223372036854775807 := by omega
  have hcm : c ≤ 9223372036854775807 := by omega
  have hlc : ls.length ≤ c := h1
  have HV := Lib.hid hv
  have HT := Lib.hid hT
  have H4 := Lib.hid h4
  have HLV := Lib.hid (fun w (h : Ext W w) => wlives_any w (hT.ext h))
  clear h1 h2 h3 h4 hv hT
  go_enter Tryd.func5, Tryd.ntmps5
  go_wp2_with fail
  go_loopw [7, 8] (fun kv iv wr => ∃ (k : Nat) (z : Int), k ≤ ls.length ∧ iv = .int .i64 (k : Int) ∧ kv = .int .i64 z ∧ 0 ≤ z ∧ z ≤ 10001 ∧ (z ≤ 10000 → ((wsum (ls.take k) : Nat) : Int) ≤ z) ∧ Ext W wr) (fun _ iv _ => ls.length - (intOf iv).toNat)
  case atStart => exact ⟨0, 0, Nat.zero_le _, rfl, rfl, by decide, by decide, (fun _ => by simp [wsum]), Ext.refl _⟩
  case round =>
    obtain ⟨k, z, hk, rfl, rfl, hz0, hz1, hzs, hx⟩ := hrel
    have HX := Lib.hid hx
    have HZS := Lib.hid hzs
    have HK := Lib.hid hk
    have HLW := Lib.hid (HLV.out wr hx)
    clear hx hzs hk
    by_cases hbig : 10000 < z
    · by_cases hlt : (k : Int) < (ls.length : Int)
      all_goals
        go_wp2_with fail
        refine HLW.out.mono ?_
        rintro e w1 ⟨rfl, hx1⟩
        go_wp2_with fail
        go_ret
        exact ⟨rfl, HX.out.trans hx1⟩
    by_cases hlt : k < ls.length
    · have hk1 : (k : Int) < (ls.length : Int) := by omega
      obtain ⟨ba, oa, rfl, hba, hca⟩ := H4.out (by omega)
      have hget : ls[k]? = some ls[k] := List.getElem?_eq_getElem hlt
      obtain ⟨xa, xca, hxa⟩ := hca k ls[k] hget
      have HS := Lib.hid (wsum_take hget)
      generalize ls[k] = x at *
      obtain ⟨A2, c2, rfl, _, hc2, _, _⟩ := hxa.open_
      have hx9 : x.length ≤ 9223372036854775807 := by unfold maxLen at hc2; omega
      have HXC := Lib.hid xca
      have HBA := Lib.hid hba
      have HLT := Lib.hid hlt
      have hkw : IntKind.i64.wrap ((k : Int) + 1) = (k : Int) + 1 := by rw [IntWalk.i64_in _ (by omega)]
      clear hget hca hxa xca hba hc2 hlt
      go_wp2_with fail
      refine wp_region_mono (by kernel_rfl) (by kernel_rfl) ?_
      refine tele_move rfl (.inl rfl) rfl (isV (.int .i64 z)) (fun ρ w' h => h) ?_
      refine tele_call rfl rfl Tryd.func26 (by kernel_rfl) (isUpW (z + 20)) (fun _ _ _ => rfl) ?_ ?_
      · rintro ρ w' he ⟨h30, -⟩
        have e30 : ρ 30 = (.int .i64 z) := h30
        simp only [evR, List.map_toArray, List.map_cons, List.map_nil, e30]
        refine (add_upW z 20 z _ hz0 hz1 (by omega) (by omega) (fun _ => by omega)).mono ?_
        rintro e w'' ⟨⟨y', rfl, y1, y2, y3⟩, rfl⟩
        exact ⟨_, rfl, Ext.refl _, y', rfl, y1, y2, fun h => by have := y3 h; omega⟩
      refine tele_move rfl (.inl rfl) rfl (isV (.slice (some ⟨ba, oa, none⟩) ls.length c)) (fun ρ w' h => h) ?_
      refine tele_move rfl (.inl rfl) rfl (isV (.int .i64 (k : Int))) (fun ρ w' h => h) ?_
      refine tele_val rfl (.pointer (some ⟨ba, oa + k, none⟩)) (fun _ _ _ => rfl) ?_ ?_
      · rintro ρ w' he ⟨h32, h33, -⟩
        have e32 : ρ 32 = (.slice (some ⟨ba, oa, none⟩) ls.length c) := h32
        have e33 : ρ 33 = (.int .i64 (k : Int)) := h33
        exact index_row rfl Tryd.underlying27 e32 e33 HLT.out (by kernel_rfl)
      refine tele_val rfl (.slice A2 x.length c2) (fun _ _ _ => rfl) ?_ ?_
      · rintro ρ w' he ⟨h34, -⟩
        have e34 : ρ 34 = (.pointer (some ⟨ba, oa + k, none⟩)) := h34
        have c := (HX.out.trans he).cell (p := ⟨ba, oa + k, none⟩) HBA.out |>.trans HXC.out
        simp [execOp, evR, e34, c, go_sem]
      refine tele_val rfl (.int .i64 (x.length : Int)) (fun _ _ _ => rfl) ?_ ?_
      · rintro ρ w' he ⟨h35, -⟩
        have e35 : ρ 35 = (.slice A2 x.length c2) := h35
        simp [execOp, evR, e35, go_sem]
      refine tele_call rfl rfl Tryd.func26 (by kernel_rfl) (isUpW (z + 20 + (x.length : Int))) (fun _ _ _ => rfl) ?_ ?_
      · rintro ρ w' he ⟨h31, h36, -⟩
        have e31 : (isUpW (z + 20)).rel (ρ 31) w' := h31
        have e36 : ρ 36 = (.int .i64 (x.length : Int)) := h36
        simp only [evR, List.map_toArray, List.map_cons, List.map_nil, e36]
        obtain ⟨yy, q, z0, z1, zl⟩ := e31
        simp only [q]
        refine (add_upW yy (x.length : Int) (z + 20) _ z0 z1 (by omega) (by omega) zl).mono ?_
        rintro e w'' ⟨⟨y', rfl, y1, y2, y3⟩, rfl⟩
        exact ⟨_, rfl, Ext.refl _, y', rfl, y1, y2, fun h => by have := y3 h; omega⟩
      refine tele_move rfl (.inr rfl) rfl (isUpW (z + 20 + (x.length : Int))) (fun ρ w' h => h) ?_
      refine tele_nil ?_
      rintro ρ w' hext ⟨f7, f37, f36, f35, f34, f33, f32, f31, f30, -⟩
      replace f30 : ρ 30 = (.int .i64 z) := f30
      replace f31 : (isUpW (z + 20)).rel (ρ 31) w' := f31
      replace f32 : ρ 32 = (.slice (some ⟨ba, oa, none⟩) ls.length c) := f32
      replace f33 : ρ 33 = (.int .i64 (k : Int)) := f33
      replace f34 : ρ 34 = (.pointer (some ⟨ba, oa + k, none⟩)) := f34
      replace f35 : ρ 35 = (.slice A2 x.length c2) := f35
      replace f36 : ρ 36 = (.int .i64 (x.length : Int)) := f36
      replace f37 : (isUpW (z + 20 + (x.length : Int))).rel (ρ 37) w' := f37
      replace f7 : (isUpW (z + 20 + (x.length : Int))).rel (ρ 7) w' := f7
      simp only [puts, Act.put, List.setIfInBounds_toArray, List.set_cons_zero, List.set_cons_succ]
      obtain ⟨z2, hz2, z20, z21, z2l⟩ := f7
      rw [hz2]
      have HX2 := Lib.hid (HX.out.trans hext)
      have HZ2 := Lib.hid z2l
      clear hext hz2 z2l f30 f31 f32 f33 f34 f35 f36 f37
      go_wp2_with fail
      go_roundw
      case rel => exact ⟨k + 1, z2, HLT.out, by go_num, rfl, z20, z21, (fun h => by have h1 := HZ2.out h; have h2 := HZS.out (by omega); rw [HS.out]; omega), HX2.out⟩
      case measure => have := HLT.out; simp [intOf]; omega
    · have hk1 : ¬ (k : Int) < (ls.length : Int) := by omega
      have HW := Lib.hid (show wsum ls ≤ 10000 by
        have h := HZS.out (by omega)
        rw [List.take_of_length_le (by omega)] at h
        omega)
      have HLN := Lib.hid (show ls.length ≤ 500 by have := wsum_len ls; have := HW.out; omega)
      obtain ⟨W5, rfl⟩ : ∃ w, w = wr := ⟨_, rfl⟩
      have HDN := Lib.hid (dkNew_any 1048576 W5 (by decide))
      have HT1 := Lib.hid (HT.out.ext HX.out)
      clear hlt
      go_wp2_with fail
      refine HDN.out.mono ?_
      rintro e w4 ⟨rfl, hx4, hd4⟩
      obtain ⟨q, hq, hqe⟩ := place_int y 299 (by omega)
      have hqe2 : wrap64 ((IntKind.u64.wrap y).tmod 300) = (q : Int) := by simpa using hqe
      obtain ⟨sz, hsz⟩ : ∃ sz, sz = 300 + q := ⟨_, rfl⟩
      have hszw : IntKind.i64.wrap (300 + (q : Int)) = (sz : Int) := by rw [IntWalk.i64_in _ (by omega)]; omega
      have HSZ1 := Lib.hid (show 300 ≤ sz by omega)
      have HSZ2 := Lib.hid (show sz ≤ 1048576 by omega)
      have HOP := Lib.hid (wopen_any hd4 hx4 HT1.out (fresh_ok (by decide)) (fresh_small 1048576) (by decide) (sz : Int))
      have HDL := Lib.hid hd4.lows
      have HY4 := Lib.hid hx4
      obtain ⟨bd, hbd⟩ : ∃ b, b = W5.heap.size + 1 := ⟨_, rfl⟩
      rw [← hbd] at HOP HDL
      rw [← hbd]
      clear hbd hx4 hd4 HDN hqe hq hsz
      go_wp2_with fail
      refine HOP.out.mono ?_
      intro e w5 hq5
      obtain ⟨pl5, ms5, bl, va, vl, rfl, hc5, hk5, hb5⟩ := hq5.some_ (wOpen_fresh sz (by have := HSZ1.out; omega) HSZ2.out)
      have HY5 := Lib.hid hc5.hx
      have HD5 := Lib.hid hc5.dl
      have HL0 := Lib.hid (wOpen_lok (fresh_ok (room := 1048576) (by decide)) (sz : Int) (l := ⟨[⟨1, 0, 0⟩], sz, 0, 0⟩) (by rw [wOpen_fresh sz (by have := HSZ1.out; omega) HSZ2.out]))
      have HS0 := Lib.hid (show (⟨1048576, [⟨wname 1, [], 0⟩], true, 1, 0, none⟩ : Dk).SmallC 2 by have := wOpen_small (fresh_small 1048576) (sz : Int); rw [wOpen_fresh sz (by have := HSZ1.out; omega) HSZ2.out] at this; exact this)
      clear hq5 hc5 hk5 hb5 HOP hqe2 hszw
      go_wp2_with fail
      go_loopw [61] (fun iv wr => ∃ (k : Nat) (cs : List (List (List UInt8))) (cc : List (List UInt8)) (d : Dk) (l : Lg) (fp : Nat → Prop), k ≤ ls.length ∧ iv = .int .i64 (k : Int) ∧ RI sz (ls.take k) cs cc d l ∧ d.SmallC (2 + 3 * k) ∧ LOk (2 * k) l ∧ DL W5.heap.size bd bl fp d l wr ∧ Ext W5 wr) (fun iv _ => ls.length - (intOf iv).toNat)
      case atStart => exact ⟨0, [], [], _, _, _, Nat.zero_le _, rfl, RI.start sz (by have := HSZ1.out; omega) HSZ2.out, HS0.out, HL0.out, HD5.out, HY5.out⟩
      case round =>
        obtain ⟨k, cs, cc, d, l, fp, hk, rfl, hri, hsm, hlo, hd, hy⟩ := hrel
        have HRI := Lib.hid hri
        have HSM := Lib.hid hsm
        have HLO := Lib.hid hlo
        have HD := Lib.hid hd
        have HY := Lib.hid hy
        have HKL := Lib.hid hk
        clear hri hsm hlo hd hy hk
        by_cases hlt : k < ls.length
        · have hk1 : (k : Int) < (ls.length : Int) := by omega
          obtain ⟨ba, oa, rfl, hba, hca⟩ := H4.out (by omega)
          have hget : ls[k]? = some ls[k] := List.getElem?_eq_getElem hlt
          obtain ⟨xa, xca, hxa⟩ := hca k ls[k] hget
          have HTK := Lib.hid (show ls.take (k + 1) = ls.take k ++ [ls[k]] by rw [List.take_add_one, hget]; rfl)
          generalize ls[k] = x at *
          have hst := HRI.out.step HSZ1.out x (by rw [← HTK.out]; exact Nat.le_trans (wsum_take_le ls _) HW.out)
          obtain ⟨hz, cs', c', hri'⟩ := hst
          rw [← HTK.out] at hri'
          have hap := wAppend_any HD.out HY.out HT1.out HRI.out.ch.ok HLO.out.ne HLO.out.pos HLO.out.nx9 HSM.out (by have := HLN.out; have := HKL.out; omega) (Nat.le_trans HLO.out.len (by have := HLN.out; have := HKL.out; omega)) (Nat.le_trans HLO.out.bytes (by have := HLN.out; have := HKL.out; omega)) (hxa.ext (HX.out.trans HY.out))
          have hsm' := wAppend_small HSM.out l x
          have hlo' := wAppend_lok (d := d) (rec := x) HLO.out
          generalize wAppend d l x = X at *
          obtain ⟨⟨d', l'⟩, n', e'⟩ := X
          dsimp only at hz hri' hap hsm' hlo'
          subst hz
          have xcw := ((HX.out.trans HY.out).cell (p := ⟨ba, oa + k, none⟩) hba).trans xca
          obtain ⟨A2, c2, rfl, _, hc2, _, _⟩ := hxa.open_
          have hx9 : x.length ≤ 9223372036854775807 := by unfold maxLen at hc2; omega
          have HAP := Lib.hid hap
          have HRI' := Lib.hid hri'
          have HSM' := Lib.hid (hsm'.more (c' := 2 + 3 * (k + 1)) (by omega))
          have HLO' := Lib.hid (hlo'.more (c' := 2 * (k + 1)) (by omega))
          have HLT := Lib.hid hlt
          have hkw : IntKind.i64.wrap ((k : Int) + 1) = (k : Int) + 1 := by rw [IntWalk.i64_in _ (by omega)]
          clear hget hca hxa xca hba hc2 hap hri' hsm' hlo' hlt
          go_wp2_with fail
          refine HAP.out.mono ?_
          rintro e w6 ⟨rfl, hs6⟩
          obtain ⟨fp6, hd6, hk6⟩ := Cont.of_dls hs6
          have HY6 := Lib.hid (hk6.low HY.out HD.out.low)
          have HD6 := Lib.hid hd6
          clear hs6 hd6 hk6
          go_wp2_with fail
          go_roundw
          case rel => exact ⟨k + 1, cs', c', d', l', fp6, HLT.out, by go_num, HRI'.out, HSM'.out, HLO'.out, HD6.out, HY6.out⟩
          case measure => have := HLT.out; simp [intOf]; omega
        · have hk1 : ¬ (k : Int) < (ls.length : Int) := by omega
          have hkl : k = ls.length := by have := HKL.out; omega
          have hri := HRI.out
          rw [hkl, List.take_length] at hri
          obtain ⟨d1, l1, d2, l2, d3, l3, first, r1, r2, r3, r4, r5, r6, r7, r8, r9, r10, r11, r12, r13, r14⟩ := retire_plain hri HW.out lsn
          have hsgl := HLO.out.len
          have hk500 := HLN.out
          have hrt := wRetire_any HD.out HY.out HT1.out hri.ch.ok HSM.out HLO.out.ne (by omega) lsn
          have hok1 := wRetire_ok hri.ch.ok l lsn
          have hsm1 := wRetire_small HSM.out l lsn
          rw [r1] at hrt hok1 hsm1
          have hok2 := wSync_ok hok1 l1
          have hsm2 := wSync_small hsm1 l1
          dsimp only at hok2 hsm2
          rw [r2] at hok2 hsm2
          have HRT := Lib.hid hrt
          have HOK1 := Lib.hid hok1
          have HOK2 := Lib.hid hok2
          have HSM1 := Lib.hid hsm1
          have HSM2 := Lib.hid hsm2
          have R2 := Lib.hid r2
          have R3 := Lib.hid r3
          have R4 := Lib.hid r4
          have R5 := Lib.hid r5
          have R6 := Lib.hid r6
          have R7 := Lib.hid r7
          have R8 := Lib.hid r8
          have R9 := Lib.hid r9
          have R10 := Lib.hid r10
          have R11 := Lib.hid r11
          have R12 := Lib.hid r12
          have R13 := Lib.hid r13
          have R14 := Lib.hid r14
          have HC1 := Lib.hid (show 2 + 3 * k + l.segs.length ≤ 10000 by omega)
          clear hri r1 r2 r3 r4 r5 r6 r7 r8 r9 r10 r11 r12 r13 r14 hrt hok1 hok2 hsm1 hsm2 hlt hkl hsgl hk500
          go_wp2_with fail
          refine HRT.out.mono ?_
          rintro e w6 ⟨rfl, hs6⟩
          obtain ⟨fp6, hd6, hk6⟩ := Cont.of_dls hs6
          have HY6 := Lib.hid (hk6.low HY.out HD.out.low)
          have HD6 := Lib.hid hd6
          have hsy := wSync_any hd6 HY6.out HT1.out HOK1.out (HSM1.out.small (by have := HC1.out; omega)) R11.out (by rw [R12.out]; omega) (by rw [R12.out]; have := HLN.out; omega)
          rw [R2.out] at hsy
          have HSY := Lib.hid hsy
          dsimp only at HSY
          clear hs6 hd6 hk6 hsy HRT
          go_wp2_with fail
          refine HSY.out.mono ?_
          rintro e w7 ⟨rfl, hs7⟩
          obtain ⟨fp7, hd7, hk7⟩ := Cont.of_dls hs7
          have HY7 := Lib.hid (hk7.low HY6.out HD6.out.low)
          obtain ⟨bm7, pl7, ms7, v7, hc7, -⟩ := hd7.cx HY7.out HT1.out
          have HC7 := Lib.hid hc7
          have HF := Lib.hid (wFirst_any hc7.hd hc7.hl R13.out (by rw [R4.out]; have := HLN.out; omega))
          rw [R3.out] at HF
          clear hs7 hd7 hk7 hc7 HSY
          go_wp2_with fail
          refine HF.out.mono ?_
          rintro e w8 ⟨rfl, hx8⟩
          have HC8 := Lib.hid (HC7.out.ext hx8)
          have HN := Lib.hid (wNext_any HC8.out.hd HC8.out.hl R13.out (by rw [R4.out]; have := HLN.out; omega))
          rw [R4.out] at HN
          obtain ⟨ln1, hln1⟩ : ∃ n, n = ls.length + 1 := ⟨_, rfl⟩
          have HLN1 := Lib.hid hln1
          rw [← hln1] at HN
          clear hx8 HF hln1
          have hf1 : ¬ (first : Int) < 1 := by have := R5.out; omega
          have hfn : ¬ (ln1 : Int) < (first : Int) := by have := R6.out; have := HLN1.out; omega
          have hwln : IntKind.i64.wrap ((ls.length : Int) + 1) = (ln1 : Int) := by rw [IntWalk.i64_in _ (by have := HLN.out; omega)]; have := HLN1.out; omega
          have HOP := Lib.hid (wopen_any HC8.out.hd HC8.out.hx HT1.out HOK2.out HSM2.out (by have := HC1.out; omega) 300)
          have hq1 : ¬ (1 : Int) < (first : Int) ∨ ((1 : Int) < (first : Int) ∧ ¬ lsn < (first : Int)) := by
            by_cases h1 : 1 < first
            · have := R7.out h1
              exact .inr ⟨by omega, by omega⟩
            · exact .inl (by omega)
          have fin : True := trivial
          rcases hq1 with hq1 | ⟨hq1, hq2⟩
          all_goals
            go_wp2_with fail
            refine HN.out.mono ?_
            rintro e w9 ⟨rfl, hx9⟩
            have HC9 := Lib.hid (HC8.out.ext hx9)
            have HOP9 := Lib.hid (wopen_any HC9.out.hd HC9.out.hx HT1.out HOK2.out HSM2.out (by have := HC1.out; omega) 300)
            clear hx9
            go_wp2_with fail
            refine HOP9.out.mono ?_
            intro e w10 hq10
            obtain ⟨pl10, ms10, bl10, va10, vl10, rfl, hc10, hk10, hb10⟩ := hq10.some_ R8.out
            obtain ⟨A10, c10, rfl⟩ := hb10.bsso.form
            have HC10 := Lib.hid hc10
            have HB10 := Lib.hid hb10
            have HF10 := Lib.hid (wFirst_any hc10.hd hc10.hl R14.out (by rw [R10.out]; have := HLN.out; omega))
            rw [R9.out] at HF10
            clear hq10 hc10 hk10 hb10
            go_wp2_with fail
            refine HF10.out.mono ?_
            rintro e w11 ⟨rfl, hx11⟩
            have HC11 := Lib.hid (HC10.out.ext hx11)
            have HB11 := Lib.hid (HB10.out.kb (Kb.of_ext hx11))
            have HN11 := Lib.hid (wNext_any HC11.out.hd HC11.out.hl R14.out (by rw [R10.out]; have := HLN.out; omega))
            rw [R10.out, ← HLN1.out] at HN11
            clear hx11
            go_wp2_with fail
            refine HN11.out.mono ?_
            rintro e w12 ⟨rfl, hx12⟩
            have HC12 := Lib.hid (HC11.out.ext hx12)
            have HB12 := Lib.hid (HB11.out.kb (Kb.of_ext hx12))
            have HX12 := Lib.hid (HX.out.trans HC12.out.hx)
            have HLW12 := Lib.hid (HLV.out w12 HX12.out)
            obtain ⟨f1, hf1d⟩ : ∃ f1, f1 = first - 1 := ⟨_, rfl⟩
            have hwf : IntKind.i64.wrap ((first : Int) - 1) = (f1 : Int) := by rw [IntWalk.i64_in _ (by have := R5.out; have := R6.out; have := HLN.out; omega)]; have := R5.out; omega
            have hfl : (f1 : Int) ≤ (ls.length : Int) := by have := R6.out; omega
            have hf0 : ¬ (f1 : Int) < 0 := by omega
            have HFR := Lib.hid (show Bss w12 (.slice (if c = f1 then A else A.map (·.add f1)) (ls.length - f1) (c - f1)) (ls.drop (first - 1)) by rw [← hf1d]; exact (HV.out.ext HX12.out).from_ (by omega))
            clear hf1d
            by_cases hcf : c = f1
            · have HFR := HFR.out
              have hcf2 := hcf.symm
              clear hcf
              subst hcf2
              rw [if_pos rfl, Nat.sub_self, show ls.length - f1 = 0 by omega] at HFR
              have HSA := Lib.hid (rSame_any _ _ _ _ w12 HB12.out.bsso.bss HFR)
              rw [show sameB (ls.drop (first - 1)) (ls.drop (first - 1)) = true by unfold sameB; exact beq_self_eq_true _, List.length_drop] at HSA
              clear hx12 HFR
              go_wp2_with fail
              refine HSA.out.mono ?_
              rintro e w13 ⟨rfl, hx13⟩
              have HX13 := Lib.hid (HX12.out.trans hx13)
              have HLW13 := Lib.hid (HLV.out w13 HX13.out)
              clear hx13
              go_wp2_with fail
              refine HLW13.out.mono ?_
              rintro e w14 ⟨rfl, hx14⟩
              go_wp2_with fail
              go_ret
              exact ⟨rfl, HX13.out.trans hx14⟩
            · have HFR := HFR.out
              rw [if_neg hcf] at HFR
              have HSA := Lib.hid (rSame_any _ _ _ _ w12 HB12.out.bsso.bss HFR)
              rw [show sameB (ls.drop (first - 1)) (ls.drop (first - 1)) = true by unfold sameB; exact beq_self_eq_true _, List.length_drop] at HSA
              clear hx12 HFR
              go_wp2_with fail
              refine HSA.out.mono ?_
              rintro e w13 ⟨rfl, hx13⟩
              have HX13 := Lib.hid (HX12.out.trans hx13)
              have HLW13 := Lib.hid (HLV.out w13 HX13.out)
              clear hx13
              go_wp2_with fail
              refine HLW13.out.mono ?_
              rintro e w14 ⟨rfl, hx14⟩
              go_wp2_with fail
              go_ret
              exact ⟨rfl, HX13.out.trans hx14⟩
end Go.Proofs.YtagghghoimpofaaDoor
