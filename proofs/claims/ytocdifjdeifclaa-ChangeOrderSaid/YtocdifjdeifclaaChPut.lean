/-
  The bytes of changes: Put, both sides.
-/
import Derived.Test.YtocdifjdeifclaaChGoodRef
import Derived.Test.YtocdifjdeifclaaStBytesC
namespace Go.Proofs.Ytocdifjdeifclaa
open Go Go.RowKit Mono Num
set_option linter.unusedVariables false
set_option linter.unusedSimpArgs false
set_option maxRecDepth 10000

/-- The bytes of a write, of writes, of a change. -/
def wput (x : Wr) : List UInt8 := nputText x.key ++ (nput x.group ++ (if x.gone = true then nput 1 else nput 0 ++ nputText x.value))
def wputs (l : List Wr) : List UInt8 := l.flatMap wput
def cput (gs : List Grp) (c : Ch) : List UInt8 :=
  if cgood gs c = 0 then nput c.site ++ nput c.seq ++ nput (scode c.sn c.ss) ++ vput c.va c.vb ++ nput (c.writes.length : Int) ++ wputs c.writes else []
theorem wputs_nil : wputs [] = [] := rfl
theorem wputs_snoc (l : List Wr) (x : Wr) : wputs (l ++ [x]) = wputs l ++ wput x := by unfold wputs; simp
theorem wput_len (x : Wr) (hk : x.key.length ≤ 32) (hz : x.value.length ≤ 64) : (wput x).length ≤ 200 := by
  unfold wput nputText
  have h1 := nsize_le (x.key.length : Int)
  have h2 := nsize_le x.group
  have h3 := nsize_le 0
  have h4 := nsize_le 1
  have h5 := nsize_le (x.value.length : Int)
  split <;> simp only [List.length_append, nput_length] <;> omega
theorem wputs_len : ∀ l : List Wr, (∀ x ∈ l, x.key.length ≤ 32 ∧ x.value.length ≤ 64) → (wputs l).length ≤ 200 * l.length
  | [], _ => by simp [wputs]
  | x :: l, h => by
    have h1 := wput_len x (h x (by simp)).1 (h x (by simp)).2
    have h2 := wputs_len l (fun y hy => h y (by simp [hy]))
    have h3 : wputs (x :: l) = wput x ++ wputs l := by unfold wputs; simp
    rw [h3, List.length_append, List.length_cons]
    omega
theorem cgoodF_all (n : Nat) : ∀ (l : List Wr) (p : Option Wr), cgoodF n p l = true → ∀ x ∈ l, wok n x = true
  | [], _, _, x, hx => by cases hx
  | y :: l, p, h, x, hx => by
    have h' : (wok n y && (match p with | none => true | some q => wahead q y) && cgoodF n (some y) l) = true := by cases p <;> exact h
    simp only [Bool.and_eq_true] at h'
    rcases List.mem_cons.1 hx with rfl | hx
    · exact h'.1.1
    · exact cgoodF_all n l _ h'.2 x hx
theorem wok_spec {n : Nat} {x : Wr} (h : wok n x = true) : x.key.length ≤ 32 ∧ 0 ≤ x.group ∧ x.group < n ∧ x.value.length ≤ 64 := by
  unfold wok at h
  simp only [Bool.and_eq_true, decide_eq_true_eq] at h
  omega
theorem cgood_zero {gs : List Grp} {site seq sn ss va vb : Int} {ws : List Wr} (h : cgood gs ⟨site, seq, sn, ss, va, vb, ws⟩ = 0) :
    1 ≤ site ∧ site ≤ 2 ∧ 1 ≤ seq ∧ seq ≤ 1099511627776 ∧ 1 ≤ ws.length ∧ ws.length ≤ 8 ∧ ∀ x ∈ ws, x.key.length ≤ 32 ∧ 0 ≤ x.group ∧ x.group < gs.length ∧ x.value.length ≤ 64 := by
  unfold cgood at h
  dsimp only at h
  by_cases hp : pgood gs = 0
  · rw [if_neg (by omega)] at h
    cases hc : chead ⟨site, seq, sn, ss, va, vb, ws⟩
    · rw [if_pos hc] at h; cases h
    · rw [if_neg (by simp [hc])] at h
      by_cases hn : ws.length < 1 ∨ 8 < ws.length
      · rw [if_pos hn] at h; cases h
      · rw [if_neg hn] at h
        unfold chead at hc
        simp only [Bool.and_eq_true, Bool.or_eq_true, beq_iff_eq, decide_eq_true_eq] at hc
        cases hf : cgoodF gs.length none ws
        · rw [if_neg (by simp [hf])] at h; cases h
        · exact ⟨by omega, by omega, by omega, by omega, by omega, by omega, fun x hx => wok_spec (cgoodF_all _ _ _ hf x hx)⟩
  · rw [if_pos hp] at h
    exact absurd h hp

set_option maxHeartbeats 4000000 in
theorem chPut_any (v : Value) (l : List UInt8) (vl : Value) (gs : List Grp) (site seq sn ss va vb : Int) (vw : Value) (ws : List Wr) (w : World) (hv : Bs w v l) (hl5 : l.length ≤ 10000) (hl : Gs w vl gs) (hw : Ws w vw ws) :
    Calls Try.prog 22 #[v, vl, chV ⟨site, seq, sn, ss, va, vb, ws⟩ vw] w fun e w' => ∃ r, e = .returned r ∧ OwB w' w.heap.size r (l ++ cput gs ⟨site, seq, sn, ss, va, vb, ws⟩) ∧ Ext w w' := by
  have HGD := Lib.hid (fun w h1 h2 => chGood_any vl gs site seq sn ss va vb vw ws w h1 h2)
  unfold chV at HGD ⊢
  dsimp only at HGD ⊢
  obtain ⟨A, c, rfl, h1, h2, h3, h4⟩ := hw.at_
  have hgsl : gs.length ≤ 9223372036854775807 := by
    obtain ⟨_, cc, _, k1, k2, _⟩ := hl.at_
    omega
  go_enter Try.func22, Try.ntmps22
  go_wp2_with fail
  have ba := Blk.new w #[.int .i64 site, .int .i64 seq, .int .i64 sn, .int .i64 ss, .int .i64 va, .int .i64 vb, .slice A ws.length c] 29
  have hx0 := ext_alloc w (.cells #[.int .i64 site, .int .i64 seq, .int .i64 sn, .int .i64 ss, .int .i64 va, .int .i64 vb, .slice A ws.length c] 29)
  obtain ⟨n, hnn⟩ : ∃ n, n = w.heap.size := ⟨_, rfl⟩
  rw [← hnn] at ba ⊢
  have HN := Lib.hid hnn
  clear hnn
  generalize w.alloc (.cells #[.int .i64 site, .int .i64 seq, .int .i64 sn, .int .i64 ss, .int .i64 va, .int .i64 vb, .slice A ws.length c] 29) = W at *
  refine (HGD.out W (hl.ext hx0) (hw.ext hx0)).mono ?_
  rintro e w1 ⟨rfl, x1⟩
  clear HGD
  replace hx0 := Ext.trans hx0 x1
  replace ba := ba.ext x1
  clear x1
  by_cases hp : cgood gs ⟨site, seq, sn, ss, va, vb, ws⟩ = 0
  rotate_left
  · have HC := Lib.hid (show cput gs ⟨site, seq, sn, ss, va, vb, ws⟩ = [] by unfold cput; rw [if_neg hp])
    have hp0 : (((cgood gs ⟨site, seq, sn, ss, va, vb, ws⟩ : Nat) : Int) != 0) = true := by rw [bne_iff_ne]; omega
    clear hp
    clear h4
    replace hv := hv.ext hx0
    obtain ⟨A5, c5, rfl, _, _, _, _⟩ := id hv.open_
    go_wp2_with (at_builtin; refine wpList_append_bs _ rfl (.tmp 13) (.tmp 14) rfl (OwB.empty_ w1 (Nat.le_refl _)) (hv.ext (ext_alloc _ _)) rfl rfl (by simp; omega) (by simp) ?_; intro v1 w2 hown1 hg1 hat1; have hb1 : Ext w1 w2 := Below.growB (ext_alloc w1 _) (OwB.empty_ w1 (Nat.le_refl _)) hg1 (Nat.le_refl _) (by simp))
    rw [List.nil_append] at hown1
    go_ret
    exact ⟨_, rfl, by rw [HC.out, List.append_nil]; exact hown1.mono hx0.size, Ext.trans hx0 hb1⟩
  obtain ⟨hs1, hs2, hq1, hq2, hn1, hn8, hwo⟩ := cgood_zero hp
  have HC := Lib.hid (show cput gs ⟨site, seq, sn, ss, va, vb, ws⟩ = nput site ++ nput seq ++ nput (scode sn ss) ++ vput va vb ++ nput (ws.length : Int) ++ wputs ws by unfold cput; rw [if_pos hp])
  rw [hp]
  clear hp
  obtain ⟨b, off, rfl, hb, hcell⟩ := h4 (by omega)
  clear h4
  have HCE := Lib.hid hcell
  clear hcell
  have HB := Lib.hid hl5
  have HB1 := Lib.hid (show (l ++ nput site).length ≤ 10008 by rw [List.length_append, nput_length]; have := nsize_le site; omega)
  have HB2 := Lib.hid (show (l ++ nput site ++ nput seq).length ≤ 10016 by rw [List.length_append, nput_length]; have := nsize_le seq; have := HB1.out; omega)
  have HB3 := Lib.hid (show (l ++ nput site ++ nput seq ++ nput (scode sn ss)).length ≤ 10024 by rw [List.length_append, nput_length]; have := nsize_le (scode sn ss); have := HB2.out; omega)
  have HB4 := Lib.hid (show (l ++ nput site ++ nput seq ++ nput (scode sn ss) ++ vput va vb).length ≤ 10040 by rw [List.length_append]; have := vput_len va vb; have := HB3.out; omega)
  clear hl5
  have hvw := hv.ext hx0
  go_upto_region 3 with (fail)
  refine wp_region_mono (by kernel_rfl) (by kernel_rfl) ?_
  refine tele_move rfl (.inl rfl) rfl (isV (v)) (fun ρ w' h => h) ?_
  refine tele_val rfl (.pointer (some ⟨n, 0, none⟩)) (fun _ _ _ => rfl) ?_ ?_
  · rintro ρ w' he ⟨h5, -⟩
    have e5 : ρ 5 = .pointer (some ⟨n, 0, none⟩) := h5
    simp [execOp, evR, e5, go_sem]
  refine tele_val rfl (.int .i64 site) (fun _ _ _ => rfl) ?_ ?_
  · rintro ρ w' he ⟨h17, -⟩
    have e17 : ρ 17 = .pointer (some ⟨n, 0, none⟩) := h17
    have c0 := (ba.ext he).cell (i := 0) rfl
    simp [execOp, evR, e17, c0, go_sem]
  refine tele_call rfl rfl Try.func54 (by kernel_rfl) (isOw w.heap.size (l ++ nput (site))) (fun _ _ _ => rfl) ?_ ?_
  · rintro ρ w' he ⟨h16, h18, -⟩
    have e16 : ρ 16 = v := h16
    have e18 : ρ 18 = .int .i64 site := h18
    simp only [evR, List.map_toArray, List.map_cons, List.map_nil, e16, e18]
    refine (numPut_any _ (l) (site) _ (hv.ext (Ext.trans hx0 he)) (by have := HB.out; omega) (by omega)).mono ?_
    rintro e w'' ⟨r, rfl, hr, hx⟩
    exact ⟨r, rfl, hx, (show OwB _ _ _ _ from hr).mono ((Ext.trans hx0 he).size)⟩
  refine tele_val rfl (.pointer (some ⟨n, 1, none⟩)) (fun _ _ _ => rfl) ?_ ?_
  · rintro ρ w' he ⟨h5, -⟩
    have e5 : ρ 5 = .pointer (some ⟨n, 0, none⟩) := h5
    simp [execOp, evR, e5, go_sem]
  refine tele_val rfl (.int .i64 seq) (fun _ _ _ => rfl) ?_ ?_
  · rintro ρ w' he ⟨h20, -⟩
    have e20 : ρ 20 = .pointer (some ⟨n, 1, none⟩) := h20
    have c0 := (ba.ext he).cell (i := 1) rfl
    simp [execOp, evR, e20, c0, go_sem]
  refine tele_call rfl rfl Try.func54 (by kernel_rfl) (isOw w.heap.size (l ++ nput site ++ nput seq)) (fun _ _ _ => rfl) ?_ ?_
  · rintro ρ w' he ⟨h19, h21, -⟩
    have e19 : (isOw w.heap.size (l ++ nput (site))).rel (ρ 19) w' := h19
    have e21 : ρ 21 = .int .i64 seq := h21
    simp only [evR, List.map_toArray, List.map_cons, List.map_nil, e21]
    refine (numPut_any _ (l ++ nput site) seq _ (show OwB _ _ _ _ from e19).bs (by have := HB1.out; omega) (by omega)).mono ?_
    rintro e w'' ⟨r, rfl, hr, hx⟩
    exact ⟨r, rfl, hx, (show OwB _ _ _ _ from hr).mono (Ext.trans hx0 he).size⟩
  refine tele_move rfl (.inr rfl) rfl (isOw w.heap.size (l ++ nput site ++ nput seq)) (fun ρ w' h => h) ?_
  refine tele_nil ?_
  rintro ρ w' hext ⟨f0, f22, f21, f20, f19, f18, f17, f16, -⟩
  clear f16
  clear f17
  clear f18
  clear f19
  clear f20
  clear f21
  clear f22
  replace f0 : (isOw w.heap.size (l ++ nput site ++ nput seq)).rel (ρ 0) w' := f0
  simp only [puts, Act.put, List.setIfInBounds_toArray, List.set_cons_zero, List.set_cons_succ]
  have g0 := f0
  clear f0
  replace hx0 := Ext.trans hx0 hext
  replace ba := ba.ext hext
  clear hext
  generalize ρ 0 = r0 at *
  go_upto_region 4 with (fail)
  refine wp_region_mono (by kernel_rfl) (by kernel_rfl) ?_
  refine tele_move rfl (.inl rfl) rfl (isV (r0)) (fun ρ w' h => h) ?_
  refine tele_val rfl (.pointer (some ⟨n, 2, none⟩)) (fun _ _ _ => rfl) ?_ ?_
  · rintro ρ w' he ⟨h5, -⟩
    have e5 : ρ 5 = .pointer (some ⟨n, 0, none⟩) := h5
    simp [execOp, evR, e5, go_sem]
  refine tele_val rfl (.agg #[.int .i64 sn, .int .i64 ss]) (fun _ _ _ => rfl) ?_ ?_
  · rintro ρ w' he ⟨h24, -⟩
    have e24 : ρ 24 = .pointer (some ⟨n, 2, none⟩) := h24
    have c0 := (ba.ext he).cell (i := 2) rfl
    have c1 := (ba.ext he).cell (i := 3) rfl
    simp [execOp, evR, e24, c0, c1, go_sem]
  refine tele_call rfl rfl Try.func56 (by kernel_rfl) (isOw w.heap.size (l ++ nput site ++ nput seq ++ nput (scode sn ss))) (fun _ _ _ => rfl) ?_ ?_
  · rintro ρ w' he ⟨h23, h25, -⟩
    have e23 : ρ 23 = r0 := h23
    have e25 : ρ 25 = .agg #[.int .i64 sn, .int .i64 ss] := h25
    simp only [evR, List.map_toArray, List.map_cons, List.map_nil, e23, e25]
    refine (stPut_any _ (l ++ nput site ++ nput seq) sn ss _ ((show OwB _ _ _ _ from g0).ext he).bs (by have := HB2.out; omega)).mono ?_
    rintro e w'' ⟨r, rfl, hr, hx⟩
    exact ⟨r, rfl, hx, (show OwB _ _ _ _ from hr).mono (Ext.trans hx0 he).size⟩
  refine tele_val rfl (.pointer (some ⟨n, 4, none⟩)) (fun _ _ _ => rfl) ?_ ?_
  · rintro ρ w' he ⟨h5, -⟩
    have e5 : ρ 5 = .pointer (some ⟨n, 0, none⟩) := h5
    simp [execOp, evR, e5, go_sem]
  refine tele_val rfl (.agg #[.int .i64 va, .int .i64 vb]) (fun _ _ _ => rfl) ?_ ?_
  · rintro ρ w' he ⟨h27, -⟩
    have e27 : ρ 27 = .pointer (some ⟨n, 4, none⟩) := h27
    have c0 := (ba.ext he).cell (i := 4) rfl
    have c1 := (ba.ext he).cell (i := 5) rfl
    simp [execOp, evR, e27, c0, c1, go_sem]
  refine tele_call rfl rfl Try.func55 (by kernel_rfl) (isOw w.heap.size (l ++ nput site ++ nput seq ++ nput (scode sn ss) ++ vput va vb)) (fun _ _ _ => rfl) ?_ ?_
  · rintro ρ w' he ⟨h26, h28, -⟩
    have e26 : (isOw w.heap.size (l ++ nput site ++ nput seq ++ nput (scode sn ss))).rel (ρ 26) w' := h26
    have e28 : ρ 28 = .agg #[.int .i64 va, .int .i64 vb] := h28
    simp only [evR, List.map_toArray, List.map_cons, List.map_nil, e28]
    refine (vecPut_any _ (l ++ nput site ++ nput seq ++ nput (scode sn ss)) va vb _ (show OwB _ _ _ _ from e26).bs (by have := HB3.out; omega)).mono ?_
    rintro e w'' ⟨r, rfl, hr, hx⟩
    exact ⟨r, rfl, hx, (show OwB _ _ _ _ from hr).mono (Ext.trans hx0 he).size⟩
  refine tele_move rfl (.inr rfl) rfl (isOw w.heap.size (l ++ nput site ++ nput seq ++ nput (scode sn ss) ++ vput va vb)) (fun ρ w' h => h) ?_
  refine tele_nil ?_
  rintro ρ w' hext ⟨f0, f29, f28, f27, f26, f25, f24, f23, -⟩
  clear f23
  clear f24
  clear f25
  clear f26
  clear f27
  clear f28
  clear f29
  replace f0 : (isOw w.heap.size (l ++ nput site ++ nput seq ++ nput (scode sn ss) ++ vput va vb)).rel (ρ 0) w' := f0
  simp only [puts, Act.put, List.setIfInBounds_toArray, List.set_cons_zero, List.set_cons_succ]
  have g1 := f0
  clear f0 g0
  replace hx0 := Ext.trans hx0 hext
  replace ba := ba.ext hext
  clear hext
  generalize ρ 0 = r1 at *
  have bac := ba.cell (i := 6) rfl
  go_wp2_with fail
  refine (numPut_any r1 (l ++ nput site ++ nput seq ++ nput (scode sn ss) ++ vput va vb) (ws.length : Int) _ (show OwB _ _ _ _ from g1).bs (by have := HB4.out; omega) (by omega)).mono ?_
  rintro e w2 ⟨r2, rfl, hr2, x2⟩
  clear bac g1
  replace ba := ba.ext x2
  have g2 : OwB w2 w.heap.size r2 (l ++ nput site ++ nput seq ++ nput (scode sn ss) ++ vput va vb ++ nput (ws.length : Int)) := hr2.mono hx0.size
  replace hx0 := Ext.trans hx0 x2
  clear x2 hr2
  have HB5 := Lib.hid (show (l ++ nput site ++ nput seq ++ nput (scode sn ss) ++ vput va vb ++ nput (ws.length : Int)).length ≤ 10048 by rw [List.length_append, nput_length]; have := nsize_le (ws.length : Int); have := HB4.out; omega)
  have HEQ := Lib.hid (show l ++ cput gs ⟨site, seq, sn, ss, va, vb, ws⟩ = l ++ nput site ++ nput seq ++ nput (scode sn ss) ++ vput va vb ++ nput (ws.length : Int) ++ wputs ws by rw [HC.out]; simp only [List.append_assoc])
  clear HB1 HB2 HB3 HB4
  generalize l ++ nput site ++ nput seq ++ nput (scode sn ss) ++ vput va vb ++ nput (ws.length : Int) = T0 at *
  have bac := ba.cell (i := 6) rfl
  go_wp2_with fail
  clear bac
  go_loopw [0, 38] (fun r j wr => ∃ i : Nat, i ≤ ws.length ∧ j = .int .i64 i ∧ OwB wr w.heap.size r (T0 ++ wputs (ws.take i)) ∧ Blk wr n [.int .i64 site, .int .i64 seq, .int .i64 sn, .int .i64 ss, .int .i64 va, .int .i64 vb, .slice (some ⟨b, off, none⟩) ws.length c] ∧ Ext w wr) (fun r j _ => ws.length - (intOf j).toNat)
  case atStart => exact ⟨0, Nat.zero_le _, rfl, by rw [List.take_zero, wputs_nil, List.append_nil]; exact g2, ba, hx0⟩
  case round =>
    obtain ⟨i, hi, rfl, hown, ba, hx⟩ := hrel
    by_cases hlt : i < ws.length
    · obtain ⟨k, g, d, z, hget, hc0, hc1, hc2, hc3, hk, hg, hz⟩ := HCE.out i hlt
      obtain ⟨hk32, hg0, hgl, hz64⟩ := hwo _ (List.mem_of_getElem? hget)
      dsimp only at hk32 hg0 hgl hz64
      have HT := Lib.hid (show (T0 ++ wputs (ws.take i)).length + k.length ≤ 20000 by
        have := wputs_len (ws.take i) (fun x hx => ⟨(hwo x (List.mem_of_mem_take hx)).1, (hwo x (List.mem_of_mem_take hx)).2.2.2⟩)
        rw [List.length_take] at this
        have := HB5.out
        rw [List.length_append]; omega)
      have HS := Lib.hid (show wputs (ws.take (i + 1)) = wputs (ws.take i) ++ wput ⟨k, g, d, z⟩ by rw [List.take_add_one, hget]; exact wputs_snoc _ _)
      replace hc0 := (hx.cell (p := ⟨b, off + i * 4, none⟩) hb).trans hc0
      replace hc1 := (hx.cell (p := ⟨b, off + i * 4 + 1, none⟩) hb).trans hc1
      replace hc2 := (hx.cell (p := ⟨b, off + i * 4 + 2, none⟩) hb).trans hc2
      replace hc3 := (hx.cell (p := ⟨b, off + i * 4 + 3, none⟩) hb).trans hc3
      unfold strV at hc0 hc3
      clear hget
      have bac := ba.cell (i := 6) rfl
      go_upto_region 9 with (fail)
      clear hc0 hc1 hc2 hc3 bac
      have bm : Blk _ _ [strV k, .int .i64 g, .bool d, strV z] := Blk.new wr #[.string ⟨k.toArray⟩, .int .i64 g, .bool d, .string ⟨z.toArray⟩] 31
      have hx0 := Ext.trans hx (ext_alloc wr (.cells #[.string ⟨k.toArray⟩, .int .i64 g, .bool d, .string ⟨z.toArray⟩] 31))
      replace ba := ba.ext (ext_alloc wr (.cells #[.string ⟨k.toArray⟩, .int .i64 g, .bool d, .string ⟨z.toArray⟩] 31))
      replace hown := hown.ext (ext_alloc wr (.cells #[.string ⟨k.toArray⟩, .int .i64 g, .bool d, .string ⟨z.toArray⟩] 31))
      clear hx
      obtain ⟨m, hm⟩ : ∃ m, m = wr.heap.size := ⟨_, rfl⟩
      rw [← hm] at bm ⊢
      clear hm
      generalize wr.alloc (.cells #[.string ⟨k.toArray⟩, .int .i64 g, .bool d, .string ⟨z.toArray⟩] 31) = W2 at *
      obtain ⟨T, hT⟩ : ∃ T, T = T0 ++ wputs (ws.take i) := ⟨_, rfl⟩
      rw [← hT] at hown HT
      have HTT := Lib.hid hT
      clear hT
      have HT1 := Lib.hid (show (T ++ nputText k).length ≤ 21000 by rw [List.length_append, nputText, List.length_append, nput_length]; have := nsize_le (k.length : Int); have := HT.out; omega)
      have HT2 := Lib.hid (show (T ++ nputText k ++ nput g).length ≤ 22000 by rw [List.length_append, nput_length]; have := nsize_le g; have := HT1.out; omega)
      have HT3 := Lib.hid (show (T ++ nputText k ++ nput g ++ nput 0).length + z.length ≤ 23000 by rw [List.length_append, nput_length]; have := nsize_le 0; have := HT2.out; omega)
      refine wp_region_mono (by kernel_rfl) (by kernel_rfl) ?_
      refine tele_move rfl (.inl rfl) rfl (isV (u0)) (fun ρ w' h => h) ?_
      refine tele_val rfl (.pointer (some ⟨m, 0, none⟩)) (fun _ _ _ => rfl) ?_ ?_
      · rintro ρ w' he ⟨h8, -⟩
        have e8 : ρ 8 = .pointer (some ⟨m, 0, none⟩) := h8
        simp [execOp, evR, e8, go_sem]
      refine tele_val rfl (strV k) (fun _ _ _ => rfl) ?_ ?_
      · rintro ρ w' he ⟨h43, -⟩
        have e43 : ρ 43 = .pointer (some ⟨m, 0, none⟩) := h43
        have c0 := (bm.ext he).cell (i := 0) rfl
        simp [execOp, evR, e43, c0, go_sem]
      refine tele_call rfl rfl Try.func57 (by kernel_rfl) (isOw w.heap.size (T ++ nputText k)) (fun _ _ _ => rfl) ?_ ?_
      · rintro ρ w' he ⟨h42, h44, -⟩
        have e42 : ρ 42 = u0 := h42
        have e44 : ρ 44 = strV k := h44
        simp only [evR, List.map_toArray, List.map_cons, List.map_nil, e42, e44]
        refine (numPutText_any _ T k _ ((show OwB _ _ _ _ from hown).ext he).bs (by have := HT.out; omega)).mono ?_
        rintro e w'' ⟨r, rfl, hr, hx⟩
        exact ⟨r, rfl, hx, (show OwB _ _ _ _ from hr).mono (Ext.trans hx0 he).size⟩
      refine tele_val rfl (.pointer (some ⟨m, 1, none⟩)) (fun _ _ _ => rfl) ?_ ?_
      · rintro ρ w' he ⟨h8, -⟩
        have e8 : ρ 8 = .pointer (some ⟨m, 0, none⟩) := h8
        simp [execOp, evR, e8, go_sem]
      refine tele_val rfl (.int .i64 g) (fun _ _ _ => rfl) ?_ ?_
      · rintro ρ w' he ⟨h46, -⟩
        have e46 : ρ 46 = .pointer (some ⟨m, 1, none⟩) := h46
        have c0 := (bm.ext he).cell (i := 1) rfl
        simp [execOp, evR, e46, c0, go_sem]
      refine tele_call rfl rfl Try.func54 (by kernel_rfl) (isOw w.heap.size (T ++ nputText k ++ nput g)) (fun _ _ _ => rfl) ?_ ?_
      · rintro ρ w' he ⟨h45, h47, -⟩
        have e45 : (isOw w.heap.size (T ++ nputText k)).rel (ρ 45) w' := h45
        have e47 : ρ 47 = .int .i64 g := h47
        simp only [evR, List.map_toArray, List.map_cons, List.map_nil, e47]
        refine (numPut_any _ (T ++ nputText k) g _ (show OwB _ _ _ _ from e45).bs (by have := HT1.out; omega) (by omega)).mono ?_
        rintro e w'' ⟨r, rfl, hr, hx⟩
        exact ⟨r, rfl, hx, (show OwB _ _ _ _ from hr).mono (Ext.trans hx0 he).size⟩
      refine tele_move rfl (.inr rfl) rfl (isOw w.heap.size (T ++ nputText k ++ nput g)) (fun ρ w' h => h) ?_
      refine tele_nil ?_
      rintro ρ w' hext ⟨f0, f48, f47, f46, f45, f44, f43, f42, -⟩
      clear f42
      clear f43
      clear f44
      clear f45
      clear f46
      clear f47
      clear f48
      replace f0 : (isOw w.heap.size (T ++ nputText k ++ nput g)).rel (ρ 0) w' := f0
      simp only [puts, Act.put, List.setIfInBounds_toArray, List.set_cons_zero, List.set_cons_succ]
      have g0 := f0
      clear f0 hown
      replace hx0 := Ext.trans hx0 hext
      replace ba := ba.ext hext
      replace bm := bm.ext hext
      clear hext
      generalize ρ 0 = r0 at *
      have bmc := bm.cell (i := 2) rfl
      cases d
      · go_upto_region 12 with (fail)
        clear bmc
        refine wp_region_mono (by kernel_rfl) (by kernel_rfl) ?_
        refine tele_move rfl (.inl rfl) rfl (isV (r0)) (fun ρ w' h => h) ?_
        refine tele_call rfl rfl Try.func54 (by kernel_rfl) (isOw w.heap.size (T ++ nputText k ++ nput g ++ nput 0)) (fun _ _ _ => rfl) ?_ ?_
        · rintro ρ w' he ⟨h53, -⟩
          have e53 : ρ 53 = r0 := h53
          simp only [evR, List.map_toArray, List.map_cons, List.map_nil, e53]
          refine (numPut_any _ (T ++ nputText k ++ nput g) 0 _ ((show OwB _ _ _ _ from g0).ext he).bs (by have := HT2.out; omega) (by omega)).mono ?_
          rintro e w'' ⟨r, rfl, hr, hx⟩
          exact ⟨r, rfl, hx, (show OwB _ _ _ _ from hr).mono (Ext.trans hx0 he).size⟩
        refine tele_val rfl (.pointer (some ⟨m, 3, none⟩)) (fun _ _ _ => rfl) ?_ ?_
        · rintro ρ w' he ⟨h8, -⟩
          have e8 : ρ 8 = .pointer (some ⟨m, 0, none⟩) := h8
          simp [execOp, evR, e8, go_sem]
        refine tele_val rfl (strV z) (fun _ _ _ => rfl) ?_ ?_
        · rintro ρ w' he ⟨h55, -⟩
          have e55 : ρ 55 = .pointer (some ⟨m, 3, none⟩) := h55
          have c0 := (bm.ext he).cell (i := 3) rfl
          simp [execOp, evR, e55, c0, go_sem]
        refine tele_call rfl rfl Try.func57 (by kernel_rfl) (isOw w.heap.size (T ++ nputText k ++ nput g ++ nput 0 ++ nputText z)) (fun _ _ _ => rfl) ?_ ?_
        · rintro ρ w' he ⟨h54, h56, -⟩
          have e54 : (isOw w.heap.size (T ++ nputText k ++ nput g ++ nput 0)).rel (ρ 54) w' := h54
          have e56 : ρ 56 = strV z := h56
          simp only [evR, List.map_toArray, List.map_cons, List.map_nil, e56]
          refine (numPutText_any _ (T ++ nputText k ++ nput g ++ nput 0) z _ (show OwB _ _ _ _ from e54).bs (by have := HT3.out; omega)).mono ?_
          rintro e w'' ⟨r, rfl, hr, hx⟩
          exact ⟨r, rfl, hx, (show OwB _ _ _ _ from hr).mono (Ext.trans hx0 he).size⟩
        refine tele_move rfl (.inr rfl) rfl (isOw w.heap.size (T ++ nputText k ++ nput g ++ nput 0 ++ nputText z)) (fun ρ w' h => h) ?_
        refine tele_nil ?_
        rintro ρ w' hext ⟨f0, f57, f56, f55, f54, f53, -⟩
        clear f53
        clear f54
        clear f55
        clear f56
        clear f57
        replace f0 : (isOw w.heap.size (T ++ nputText k ++ nput g ++ nput 0 ++ nputText z)).rel (ρ 0) w' := f0
        simp only [puts, Act.put, List.setIfInBounds_toArray, List.set_cons_zero, List.set_cons_succ]
        have g1 : OwB _ _ _ _ := f0
        clear f0
        have hfin : T ++ nputText k ++ nput g ++ nput 0 ++ nputText z = T0 ++ wputs (ws.take (i + 1)) := by rw [HS.out, HTT.out]; simp only [wput, List.append_assoc]; rfl
        rw [hfin] at g1
        clear hfin
        generalize ρ 0 = r1 at *
        go_wp2_with fail
        go_roundw
        case rel => exact ⟨i + 1, by omega, by go_num, g1, ba.ext hext, Ext.trans hx0 hext⟩
        case measure => simp [intOf]; omega
      · go_wp2_with fail
        refine (numPut_any r0 (T ++ nputText k ++ nput g) 1 _ (show OwB _ _ _ _ from g0).bs (by have := HT2.out; omega) (by omega)).mono ?_
        rintro e w3 ⟨r3, rfl, hr3, x3⟩
        clear bmc
        have g1 : OwB w3 w.heap.size r3 (T ++ nputText k ++ nput g ++ nput 1) := hr3.mono hx0.size
        have hfin : T ++ nputText k ++ nput g ++ nput 1 = T0 ++ wputs (ws.take (i + 1)) := by rw [HS.out, HTT.out]; simp only [wput, List.append_assoc]; rfl
        rw [hfin] at g1
        clear hfin hr3
        go_wp2_with fail
        go_roundw
        case rel => exact ⟨i + 1, by omega, by go_num, g1, ba.ext x3, Ext.trans hx0 x3⟩
        case measure => simp [intOf]; omega
    · have hil : i = ws.length := by omega
      have HF : OwB wr w.heap.size u0 (l ++ cput gs ⟨site, seq, sn, ss, va, vb, ws⟩) := by rw [HEQ.out]; rw [hil, List.take_length] at hown; exact hown
      clear hown hil
      have bac := ba.cell (i := 6) rfl
      go_wp2_with fail
      go_ret
      exact ⟨_, rfl, HF, hx⟩

set_option maxHeartbeats 4000000 in
theorem refChPut_any (v : Value) (l : List UInt8) (vl : Value) (gs : List Grp) (site seq sn ss va vb : Int) (vw : Value) (ws : List Wr) (w : World) (hv : Bs w v l) (hl5 : l.length ≤ 10000) (hl : Gs w vl gs) (hw : Ws w vw ws) :
    Calls Try.prog 23 #[v, vl, chV ⟨site, seq, sn, ss, va, vb, ws⟩ vw] w fun e w' => ∃ r, e = .returned r ∧ OwB w' w.heap.size r (l ++ cput gs ⟨site, seq, sn, ss, va, vb, ws⟩) ∧ Ext w w' := by
  have HGD := Lib.hid (fun w h1 h2 => refChGood_any vl gs site seq sn ss va vb vw ws w h1 h2)
  unfold chV at HGD ⊢
  dsimp only at HGD ⊢
  obtain ⟨A, c, rfl, h1, h2, h3, h4⟩ := hw.at_
  have hgsl : gs.length ≤ 9223372036854775807 := by
    obtain ⟨_, cc, _, k1, k2, _⟩ := hl.at_
    omega
  go_enter Try.func23, Try.ntmps23
  go_wp2_with fail
  have ba := Blk.new w #[.int .i64 site, .int .i64 seq, .int .i64 sn, .int .i64 ss, .int .i64 va, .int .i64 vb, .slice A ws.length c] 29
  have hx0 := ext_alloc w (.cells #[.int .i64 site, .int .i64 seq, .int .i64 sn, .int .i64 ss, .int .i64 va, .int .i64 vb, .slice A ws.length c] 29)
  obtain ⟨n, hnn⟩ : ∃ n, n = w.heap.size := ⟨_, rfl⟩
  rw [← hnn] at ba ⊢
  have HN := Lib.hid hnn
  clear hnn
  generalize w.alloc (.cells #[.int .i64 site, .int .i64 seq, .int .i64 sn, .int .i64 ss, .int .i64 va, .int .i64 vb, .slice A ws.length c] 29) = W at *
  refine (HGD.out W (hl.ext hx0) (hw.ext hx0)).mono ?_
  rintro e w1 ⟨rfl, x1⟩
  clear HGD
  replace hx0 := Ext.trans hx0 x1
  replace ba := ba.ext x1
  clear x1
  by_cases hp : cgood gs ⟨site, seq, sn, ss, va, vb, ws⟩ = 0
  rotate_left
  · have HC := Lib.hid (show cput gs ⟨site, seq, sn, ss, va, vb, ws⟩ = [] by unfold cput; rw [if_neg hp])
    have hp0 : (((cgood gs ⟨site, seq, sn, ss, va, vb, ws⟩ : Nat) : Int) != 0) = true := by rw [bne_iff_ne]; omega
    clear hp
    clear h4
    replace hv := hv.ext hx0
    obtain ⟨A5, c5, rfl, _, _, _, _⟩ := id hv.open_
    go_wp2_with (at_builtin; refine wpList_append_bs _ rfl (.tmp 14) (.tmp 15) rfl (OwB.empty_ w1 (Nat.le_refl _)) (hv.ext (ext_alloc _ _)) rfl rfl (by simp; omega) (by simp) ?_; intro v1 w2 hown1 hg1 hat1; have hb1 : Ext w1 w2 := Below.growB (ext_alloc w1 _) (OwB.empty_ w1 (Nat.le_refl _)) hg1 (Nat.le_refl _) (by simp))
    rw [List.nil_append] at hown1
    go_ret
    exact ⟨_, rfl, by rw [HC.out, List.append_nil]; exact hown1.mono hx0.size, Ext.trans hx0 hb1⟩
  obtain ⟨hs1, hs2, hq1, hq2, hn1, hn8, hwo⟩ := cgood_zero hp
  have HC := Lib.hid (show cput gs ⟨site, seq, sn, ss, va, vb, ws⟩ = nput site ++ nput seq ++ nput (scode sn ss) ++ vput va vb ++ nput (ws.length : Int) ++ wputs ws by unfold cput; rw [if_pos hp])
  rw [hp]
  clear hp
  obtain ⟨b, off, rfl, hb, hcell⟩ := h4 (by omega)
  clear h4
  have HCE := Lib.hid hcell
  clear hcell
  have HB := Lib.hid hl5
  have HB1 := Lib.hid (show (l ++ nput site).length ≤ 10008 by rw [List.length_append, nput_length]; have := nsize_le site; omega)
  have HB2 := Lib.hid (show (l ++ nput site ++ nput seq).length ≤ 10016 by rw [List.length_append, nput_length]; have := nsize_le seq; have := HB1.out; omega)
  have HB3 := Lib.hid (show (l ++ nput site ++ nput seq ++ nput (scode sn ss)).length ≤ 10024 by rw [List.length_append, nput_length]; have := nsize_le (scode sn ss); have := HB2.out; omega)
  have HB4 := Lib.hid (show (l ++ nput site ++ nput seq ++ nput (scode sn ss) ++ vput va vb).length ≤ 10040 by rw [List.length_append]; have := vput_len va vb; have := HB3.out; omega)
  clear hl5
  have hvw := hv.ext hx0
  go_upto_region 3 with (fail)
  refine wp_region_mono (by kernel_rfl) (by kernel_rfl) ?_
  refine tele_move rfl (.inl rfl) rfl (isV (v)) (fun ρ w' h => h) ?_
  refine tele_val rfl (.pointer (some ⟨n, 0, none⟩)) (fun _ _ _ => rfl) ?_ ?_
  · rintro ρ w' he ⟨h5, -⟩
    have e5 : ρ 5 = .pointer (some ⟨n, 0, none⟩) := h5
    simp [execOp, evR, e5, go_sem]
  refine tele_val rfl (.int .i64 site) (fun _ _ _ => rfl) ?_ ?_
  · rintro ρ w' he ⟨h18, -⟩
    have e18 : ρ 18 = .pointer (some ⟨n, 0, none⟩) := h18
    have c0 := (ba.ext he).cell (i := 0) rfl
    simp [execOp, evR, e18, c0, go_sem]
  refine tele_call rfl rfl Try.func58 (by kernel_rfl) (isOw w.heap.size (l ++ nput (site))) (fun _ _ _ => rfl) ?_ ?_
  · rintro ρ w' he ⟨h17, h19, -⟩
    have e17 : ρ 17 = v := h17
    have e19 : ρ 19 = .int .i64 site := h19
    simp only [evR, List.map_toArray, List.map_cons, List.map_nil, e17, e19]
    refine (refPut_any _ (l) (site) _ (hv.ext (Ext.trans hx0 he)) (by have := HB.out; omega) (by omega)).mono ?_
    rintro e w'' ⟨r, rfl, hr, hx⟩
    exact ⟨r, rfl, hx, (show OwB _ _ _ _ from hr).mono ((Ext.trans hx0 he).size)⟩
  refine tele_val rfl (.pointer (some ⟨n, 1, none⟩)) (fun _ _ _ => rfl) ?_ ?_
  · rintro ρ w' he ⟨h5, -⟩
    have e5 : ρ 5 = .pointer (some ⟨n, 0, none⟩) := h5
    simp [execOp, evR, e5, go_sem]
  refine tele_val rfl (.int .i64 seq) (fun _ _ _ => rfl) ?_ ?_
  · rintro ρ w' he ⟨h21, -⟩
    have e21 : ρ 21 = .pointer (some ⟨n, 1, none⟩) := h21
    have c0 := (ba.ext he).cell (i := 1) rfl
    simp [execOp, evR, e21, c0, go_sem]
  refine tele_call rfl rfl Try.func58 (by kernel_rfl) (isOw w.heap.size (l ++ nput site ++ nput seq)) (fun _ _ _ => rfl) ?_ ?_
  · rintro ρ w' he ⟨h20, h22, -⟩
    have e20 : (isOw w.heap.size (l ++ nput (site))).rel (ρ 20) w' := h20
    have e22 : ρ 22 = .int .i64 seq := h22
    simp only [evR, List.map_toArray, List.map_cons, List.map_nil, e22]
    refine (refPut_any _ (l ++ nput site) seq _ (show OwB _ _ _ _ from e20).bs (by have := HB1.out; omega) (by omega)).mono ?_
    rintro e w'' ⟨r, rfl, hr, hx⟩
    exact ⟨r, rfl, hx, (show OwB _ _ _ _ from hr).mono (Ext.trans hx0 he).size⟩
  refine tele_move rfl (.inr rfl) rfl (isOw w.heap.size (l ++ nput site ++ nput seq)) (fun ρ w' h => h) ?_
  refine tele_nil ?_
  rintro ρ w' hext ⟨f7, f23, f22, f21, f20, f19, f18, f17, -⟩
  clear f17
  clear f18
  clear f19
  clear f20
  clear f21
  clear f22
  clear f23
  replace f7 : (isOw w.heap.size (l ++ nput site ++ nput seq)).rel (ρ 7) w' := f7
  simp only [puts, Act.put, List.setIfInBounds_toArray, List.set_cons_zero, List.set_cons_succ]
  have g0 := f7
  clear f7
  replace hx0 := Ext.trans hx0 hext
  replace ba := ba.ext hext
  clear hext
  generalize ρ 7 = r0 at *
  go_upto_region 4 with (fail)
  refine wp_region_mono (by kernel_rfl) (by kernel_rfl) ?_
  refine tele_move rfl (.inl rfl) rfl (isV (r0)) (fun ρ w' h => h) ?_
  refine tele_val rfl (.pointer (some ⟨n, 2, none⟩)) (fun _ _ _ => rfl) ?_ ?_
  · rintro ρ w' he ⟨h5, -⟩
    have e5 : ρ 5 = .pointer (some ⟨n, 0, none⟩) := h5
    simp [execOp, evR, e5, go_sem]
  refine tele_val rfl (.agg #[.int .i64 sn, .int .i64 ss]) (fun _ _ _ => rfl) ?_ ?_
  · rintro ρ w' he ⟨h25, -⟩
    have e25 : ρ 25 = .pointer (some ⟨n, 2, none⟩) := h25
    have c0 := (ba.ext he).cell (i := 2) rfl
    have c1 := (ba.ext he).cell (i := 3) rfl
    simp [execOp, evR, e25, c0, c1, go_sem]
  refine tele_call rfl rfl Try.func60 (by kernel_rfl) (isOw w.heap.size (l ++ nput site ++ nput seq ++ nput (scode sn ss))) (fun _ _ _ => rfl) ?_ ?_
  · rintro ρ w' he ⟨h24, h26, -⟩
    have e24 : ρ 24 = r0 := h24
    have e26 : ρ 26 = .agg #[.int .i64 sn, .int .i64 ss] := h26
    simp only [evR, List.map_toArray, List.map_cons, List.map_nil, e24, e26]
    refine (refSPut_any _ (l ++ nput site ++ nput seq) sn ss _ ((show OwB _ _ _ _ from g0).ext he).bs (by have := HB2.out; omega)).mono ?_
    rintro e w'' ⟨r, rfl, hr, hx⟩
    exact ⟨r, rfl, hx, (show OwB _ _ _ _ from hr).mono (Ext.trans hx0 he).size⟩
  refine tele_val rfl (.pointer (some ⟨n, 4, none⟩)) (fun _ _ _ => rfl) ?_ ?_
  · rintro ρ w' he ⟨h5, -⟩
    have e5 : ρ 5 = .pointer (some ⟨n, 0, none⟩) := h5
    simp [execOp, evR, e5, go_sem]
  refine tele_val rfl (.agg #[.int .i64 va, .int .i64 vb]) (fun _ _ _ => rfl) ?_ ?_
  · rintro ρ w' he ⟨h28, -⟩
    have e28 : ρ 28 = .pointer (some ⟨n, 4, none⟩) := h28
    have c0 := (ba.ext he).cell (i := 4) rfl
    have c1 := (ba.ext he).cell (i := 5) rfl
    simp [execOp, evR, e28, c0, c1, go_sem]
  refine tele_call rfl rfl Try.func59 (by kernel_rfl) (isOw w.heap.size (l ++ nput site ++ nput seq ++ nput (scode sn ss) ++ vput va vb)) (fun _ _ _ => rfl) ?_ ?_
  · rintro ρ w' he ⟨h27, h29, -⟩
    have e27 : (isOw w.heap.size (l ++ nput site ++ nput seq ++ nput (scode sn ss))).rel (ρ 27) w' := h27
    have e29 : ρ 29 = .agg #[.int .i64 va, .int .i64 vb] := h29
    simp only [evR, List.map_toArray, List.map_cons, List.map_nil, e29]
    refine (ref6Put_any _ (l ++ nput site ++ nput seq ++ nput (scode sn ss)) va vb _ (show OwB _ _ _ _ from e27).bs (by have := HB3.out; omega)).mono ?_
    rintro e w'' ⟨r, rfl, hr, hx⟩
    exact ⟨r, rfl, hx, (show OwB _ _ _ _ from hr).mono (Ext.trans hx0 he).size⟩
  refine tele_move rfl (.inr rfl) rfl (isOw w.heap.size (l ++ nput site ++ nput seq ++ nput (scode sn ss) ++ vput va vb)) (fun ρ w' h => h) ?_
  refine tele_nil ?_
  rintro ρ w' hext ⟨f7, f30, f29, f28, f27, f26, f25, f24, -⟩
  clear f24
  clear f25
  clear f26
  clear f27
  clear f28
  clear f29
  clear f30
  replace f7 : (isOw w.heap.size (l ++ nput site ++ nput seq ++ nput (scode sn ss) ++ vput va vb)).rel (ρ 7) w' := f7
  simp only [puts, Act.put, List.setIfInBounds_toArray, List.set_cons_zero, List.set_cons_succ]
  have g1 := f7
  clear f7 g0
  replace hx0 := Ext.trans hx0 hext
  replace ba := ba.ext hext
  clear hext
  generalize ρ 7 = r1 at *
  have bac := ba.cell (i := 6) rfl
  go_wp2_with fail
  refine (refPut_any r1 (l ++ nput site ++ nput seq ++ nput (scode sn ss) ++ vput va vb) (ws.length : Int) _ (show OwB _ _ _ _ from g1).bs (by have := HB4.out; omega) (by omega)).mono ?_
  rintro e w2 ⟨r2, rfl, hr2, x2⟩
  clear bac g1
  replace ba := ba.ext x2
  have g2 : OwB w2 w.heap.size r2 (l ++ nput site ++ nput seq ++ nput (scode sn ss) ++ vput va vb ++ nput (ws.length : Int)) := hr2.mono hx0.size
  replace hx0 := Ext.trans hx0 x2
  clear x2 hr2
  have HB5 := Lib.hid (show (l ++ nput site ++ nput seq ++ nput (scode sn ss) ++ vput va vb ++ nput (ws.length : Int)).length ≤ 10048 by rw [List.length_append, nput_length]; have := nsize_le (ws.length : Int); have := HB4.out; omega)
  have HEQ := Lib.hid (show l ++ cput gs ⟨site, seq, sn, ss, va, vb, ws⟩ = l ++ nput site ++ nput seq ++ nput (scode sn ss) ++ vput va vb ++ nput (ws.length : Int) ++ wputs ws by rw [HC.out]; simp only [List.append_assoc])
  clear HB1 HB2 HB3 HB4
  generalize l ++ nput site ++ nput seq ++ nput (scode sn ss) ++ vput va vb ++ nput (ws.length : Int) = T0 at *
  have bac := ba.cell (i := 6) rfl
  go_wp2_with fail
  clear bac
  go_loopw [7, 8] (fun r j wr => ∃ i : Nat, i ≤ ws.length ∧ j = .int .i64 i ∧ OwB wr w.heap.size r (T0 ++ wputs (ws.take i)) ∧ Blk wr n [.int .i64 site, .int .i64 seq, .int .i64 sn, .int .i64 ss, .int .i64 va, .int .i64 vb, .slice (some ⟨b, off, none⟩) ws.length c] ∧ Ext w wr) (fun r j _ => ws.length - (intOf j).toNat)
  case atStart => exact ⟨0, Nat.zero_le _, rfl, by rw [List.take_zero, wputs_nil, List.append_nil]; exact g2, ba, hx0⟩
  case round =>
    obtain ⟨i, hi, rfl, hown, ba, hx⟩ := hrel
    by_cases hlt : i < ws.length
    · obtain ⟨k, g, d, z, hget, hc0, hc1, hc2, hc3, hk, hg, hz⟩ := HCE.out i hlt
      obtain ⟨hk32, hg0, hgl, hz64⟩ := hwo _ (List.mem_of_getElem? hget)
      dsimp only at hk32 hg0 hgl hz64
      have HT := Lib.hid (show (T0 ++ wputs (ws.take i)).length + k.length ≤ 20000 by
        have := wputs_len (ws.take i) (fun x hx => ⟨(hwo x (List.mem_of_mem_take hx)).1, (hwo x (List.mem_of_mem_take hx)).2.2.2⟩)
        rw [List.length_take] at this
        have := HB5.out
        rw [List.length_append]; omega)
      have HS := Lib.hid (show wputs (ws.take (i + 1)) = wputs (ws.take i) ++ wput ⟨k, g, d, z⟩ by rw [List.take_add_one, hget]; exact wputs_snoc _ _)
      replace hc0 := (hx.cell (p := ⟨b, off + i * 4, none⟩) hb).trans hc0
      replace hc1 := (hx.cell (p := ⟨b, off + i * 4 + 1, none⟩) hb).trans hc1
      replace hc2 := (hx.cell (p := ⟨b, off + i * 4 + 2, none⟩) hb).trans hc2
      replace hc3 := (hx.cell (p := ⟨b, off + i * 4 + 3, none⟩) hb).trans hc3
      unfold strV at hc0 hc3
      clear hget
      have bac := ba.cell (i := 6) rfl
      go_upto_region 10 with (fail)
      clear hc0 hc1 hc2 hc3 bac
      have bm : Blk _ _ [strV k, .int .i64 g, .bool d, strV z] := Blk.new wr #[.string ⟨k.toArray⟩, .int .i64 g, .bool d, .string ⟨z.toArray⟩] 31
      have hx0 := Ext.trans hx (ext_alloc wr (.cells #[.string ⟨k.toArray⟩, .int .i64 g, .bool d, .string ⟨z.toArray⟩] 31))
      replace ba := ba.ext (ext_alloc wr (.cells #[.string ⟨k.toArray⟩, .int .i64 g, .bool d, .string ⟨z.toArray⟩] 31))
      replace hown := hown.ext (ext_alloc wr (.cells #[.string ⟨k.toArray⟩, .int .i64 g, .bool d, .string ⟨z.toArray⟩] 31))
      clear hx
      obtain ⟨m, hm⟩ : ∃ m, m = wr.heap.size := ⟨_, rfl⟩
      rw [← hm] at bm ⊢
      clear hm
      generalize wr.alloc (.cells #[.string ⟨k.toArray⟩, .int .i64 g, .bool d, .string ⟨z.toArray⟩] 31) = W2 at *
      obtain ⟨T, hT⟩ : ∃ T, T = T0 ++ wputs (ws.take i) := ⟨_, rfl⟩
      rw [← hT] at hown HT
      have HTT := Lib.hid hT
      clear hT
      have HT1 := Lib.hid (show (T ++ nputText k).length ≤ 21000 by rw [List.length_append, nputText, List.length_append, nput_length]; have := nsize_le (k.length : Int); have := HT.out; omega)
      have HT2 := Lib.hid (show (T ++ nputText k ++ nput g).length ≤ 22000 by rw [List.length_append, nput_length]; have := nsize_le g; have := HT1.out; omega)
      have HT3 := Lib.hid (show (T ++ nputText k ++ nput g ++ nput 0).length + z.length ≤ 23000 by rw [List.length_append, nput_length]; have := nsize_le 0; have := HT2.out; omega)
      refine wp_region_mono (by kernel_rfl) (by kernel_rfl) ?_
      refine tele_move rfl (.inl rfl) rfl (isV (u7)) (fun ρ w' h => h) ?_
      refine tele_val rfl (.pointer (some ⟨m, 0, none⟩)) (fun _ _ _ => rfl) ?_ ?_
      · rintro ρ w' he ⟨h9, -⟩
        have e9 : ρ 9 = .pointer (some ⟨m, 0, none⟩) := h9
        simp [execOp, evR, e9, go_sem]
      refine tele_val rfl (strV k) (fun _ _ _ => rfl) ?_ ?_
      · rintro ρ w' he ⟨h49, -⟩
        have e49 : ρ 49 = .pointer (some ⟨m, 0, none⟩) := h49
        have c0 := (bm.ext he).cell (i := 0) rfl
        simp [execOp, evR, e49, c0, go_sem]
      refine tele_call rfl rfl Try.func61 (by kernel_rfl) (isOw w.heap.size (T ++ nputText k)) (fun _ _ _ => rfl) ?_ ?_
      · rintro ρ w' he ⟨h48, h50, -⟩
        have e48 : ρ 48 = u7 := h48
        have e50 : ρ 50 = strV k := h50
        simp only [evR, List.map_toArray, List.map_cons, List.map_nil, e48, e50]
        refine (refPutText_any _ T k _ ((show OwB _ _ _ _ from hown).ext he).bs (by have := HT.out; omega)).mono ?_
        rintro e w'' ⟨r, rfl, hr, hx⟩
        exact ⟨r, rfl, hx, (show OwB _ _ _ _ from hr).mono (Ext.trans hx0 he).size⟩
      refine tele_val rfl (.pointer (some ⟨m, 1, none⟩)) (fun _ _ _ => rfl) ?_ ?_
      · rintro ρ w' he ⟨h9, -⟩
        have e9 : ρ 9 = .pointer (some ⟨m, 0, none⟩) := h9
        simp [execOp, evR, e9, go_sem]
      refine tele_val rfl (.int .i64 g) (fun _ _ _ => rfl) ?_ ?_
      · rintro ρ w' he ⟨h52, -⟩
        have e52 : ρ 52 = .pointer (some ⟨m, 1, none⟩) := h52
        have c0 := (bm.ext he).cell (i := 1) rfl
        simp [execOp, evR, e52, c0, go_sem]
      refine tele_call rfl rfl Try.func58 (by kernel_rfl) (isOw w.heap.size (T ++ nputText k ++ nput g)) (fun _ _ _ => rfl) ?_ ?_
      · rintro ρ w' he ⟨h51, h53, -⟩
        have e51 : (isOw w.heap.size (T ++ nputText k)).rel (ρ 51) w' := h51
        have e53 : ρ 53 = .int .i64 g := h53
        simp only [evR, List.map_toArray, List.map_cons, List.map_nil, e53]
        refine (refPut_any _ (T ++ nputText k) g _ (show OwB _ _ _ _ from e51).bs (by have := HT1.out; omega) (by omega)).mono ?_
        rintro e w'' ⟨r, rfl, hr, hx⟩
        exact ⟨r, rfl, hx, (show OwB _ _ _ _ from hr).mono (Ext.trans hx0 he).size⟩
      refine tele_move rfl (.inr rfl) rfl (isOw w.heap.size (T ++ nputText k ++ nput g)) (fun ρ w' h => h) ?_
      refine tele_nil ?_
      rintro ρ w' hext ⟨f7, f54, f53, f52, f51, f50, f49, f48, -⟩
      clear f48
      clear f49
      clear f50
      clear f51
      clear f52
      clear f53
      clear f54
      replace f7 : (isOw w.heap.size (T ++ nputText k ++ nput g)).rel (ρ 7) w' := f7
      simp only [puts, Act.put, List.setIfInBounds_toArray, List.set_cons_zero, List.set_cons_succ]
      have g0 := f7
      clear f7 hown
      replace hx0 := Ext.trans hx0 hext
      replace ba := ba.ext hext
      replace bm := bm.ext hext
      clear hext
      generalize ρ 7 = r0 at *
      have bmc := bm.cell (i := 2) rfl
      cases d
      · go_upto_region 13 with (fail)
        clear bmc
        refine wp_region_mono (by kernel_rfl) (by kernel_rfl) ?_
        refine tele_move rfl (.inl rfl) rfl (isV (r0)) (fun ρ w' h => h) ?_
        refine tele_call rfl rfl Try.func58 (by kernel_rfl) (isOw w.heap.size (T ++ nputText k ++ nput g ++ nput 0)) (fun _ _ _ => rfl) ?_ ?_
        · rintro ρ w' he ⟨h59, -⟩
          have e59 : ρ 59 = r0 := h59
          simp only [evR, List.map_toArray, List.map_cons, List.map_nil, e59]
          refine (refPut_any _ (T ++ nputText k ++ nput g) 0 _ ((show OwB _ _ _ _ from g0).ext he).bs (by have := HT2.out; omega) (by omega)).mono ?_
          rintro e w'' ⟨r, rfl, hr, hx⟩
          exact ⟨r, rfl, hx, (show OwB _ _ _ _ from hr).mono (Ext.trans hx0 he).size⟩
        refine tele_val rfl (.pointer (some ⟨m, 3, none⟩)) (fun _ _ _ => rfl) ?_ ?_
        · rintro ρ w' he ⟨h9, -⟩
          have e9 : ρ 9 = .pointer (some ⟨m, 0, none⟩) := h9
          simp [execOp, evR, e9, go_sem]
        refine tele_val rfl (strV z) (fun _ _ _ => rfl) ?_ ?_
        · rintro ρ w' he ⟨h61, -⟩
          have e61 : ρ 61 = .pointer (some ⟨m, 3, none⟩) := h61
          have c0 := (bm.ext he).cell (i := 3) rfl
          simp [execOp, evR, e61, c0, go_sem]
        refine tele_call rfl rfl Try.func61 (by kernel_rfl) (isOw w.heap.size (T ++ nputText k ++ nput g ++ nput 0 ++ nputText z)) (fun _ _ _ => rfl) ?_ ?_
        · rintro ρ w' he ⟨h60, h62, -⟩
          have e60 : (isOw w.heap.size (T ++ nputText k ++ nput g ++ nput 0)).rel (ρ 60) w' := h60
          have e62 : ρ 62 = strV z := h62
          simp only [evR, List.map_toArray, List.map_cons, List.map_nil, e62]
          refine (refPutText_any _ (T ++ nputText k ++ nput g ++ nput 0) z _ (show OwB _ _ _ _ from e60).bs (by have := HT3.out; omega)).mono ?_
          rintro e w'' ⟨r, rfl, hr, hx⟩
          exact ⟨r, rfl, hx, (show OwB _ _ _ _ from hr).mono (Ext.trans hx0 he).size⟩
        refine tele_move rfl (.inr rfl) rfl (isOw w.heap.size (T ++ nputText k ++ nput g ++ nput 0 ++ nputText z)) (fun ρ w' h => h) ?_
        refine tele_nil ?_
        rintro ρ w' hext ⟨f7, f63, f62, f61, f60, f59, -⟩
        clear f59
        clear f60
        clear f61
        clear f62
        clear f63
        replace f7 : (isOw w.heap.size (T ++ nputText k ++ nput g ++ nput 0 ++ nputText z)).rel (ρ 7) w' := f7
        simp only [puts, Act.put, List.setIfInBounds_toArray, List.set_cons_zero, List.set_cons_succ]
        have g1 : OwB _ _ _ _ := f7
        clear f7
        have hfin : T ++ nputText k ++ nput g ++ nput 0 ++ nputText z = T0 ++ wputs (ws.take (i + 1)) := by rw [HS.out, HTT.out]; simp only [wput, List.append_assoc]; rfl
        rw [hfin] at g1
        clear hfin
        generalize ρ 7 = r1 at *
        go_wp2_with fail
        go_roundw
        case rel => exact ⟨i + 1, by omega, by go_num, g1, ba.ext hext, Ext.trans hx0 hext⟩
        case measure => simp [intOf]; omega
      · go_wp2_with fail
        refine (refPut_any r0 (T ++ nputText k ++ nput g) 1 _ (show OwB _ _ _ _ from g0).bs (by have := HT2.out; omega) (by omega)).mono ?_
        rintro e w3 ⟨r3, rfl, hr3, x3⟩
        clear bmc
        have g1 : OwB w3 w.heap.size r3 (T ++ nputText k ++ nput g ++ nput 1) := hr3.mono hx0.size
        have hfin : T ++ nputText k ++ nput g ++ nput 1 = T0 ++ wputs (ws.take (i + 1)) := by rw [HS.out, HTT.out]; simp only [wput, List.append_assoc]; rfl
        rw [hfin] at g1
        clear hfin hr3
        go_wp2_with fail
        go_roundw
        case rel => exact ⟨i + 1, by omega, by go_num, g1, ba.ext x3, Ext.trans hx0 x3⟩
        case measure => simp [intOf]; omega
    · have hil : i = ws.length := by omega
      have HF : OwB wr w.heap.size u7 (l ++ cput gs ⟨site, seq, sn, ss, va, vb, ws⟩) := by rw [HEQ.out]; rw [hil, List.take_length] at hown; exact hown
      clear hown hil
      have bac := ba.cell (i := 6) rfl
      go_wp2_with fail
      go_ret
      exact ⟨_, rfl, HF, hx⟩
end Go.Proofs.Ytocdifjdeifclaa
